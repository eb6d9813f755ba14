/-
  DIVISION.
-/
import Derived.Test.YgctafFl4
namespace Go.Proofs.Ygctaf
open Ieee

theorem nat_log2_zero : (0 : Nat).log2 = 0 := by decide
/-- How many binary digits a quotient has. -/
theorem quot_big (m n : Nat) (hm : m ≠ 0) (hn : n ≠ 0) (hle : m.log2 ≤ 54 + n.log2) : 2 ^ 53 ≤ m * 2 ^ (54 + n.log2 - m.log2) / n := by
  rw [Nat.le_div_iff_mul_le (by omega)]
  have h1 : 2 ^ m.log2 ≤ m := Nat.log2_self_le hm
  have h2 : n < 2 ^ (n.log2 + 1) := Nat.lt_log2_self
  have h3 : 2 ^ 53 * n ≤ 2 ^ 53 * 2 ^ (n.log2 + 1) := Nat.mul_le_mul_left _ (Nat.le_of_lt h2)
  have h4 : 2 ^ m.log2 * 2 ^ (54 + n.log2 - m.log2) ≤ m * 2 ^ (54 + n.log2 - m.log2) := Nat.mul_le_mul_right _ h1
  rw [← Nat.pow_add] at h3 h4
  rw [show m.log2 + (54 + n.log2 - m.log2) = 53 + (n.log2 + 1) from by omega] at h4
  exact Nat.le_trans h3 h4

theorem div_eq_of_mul {a b c : Rat} (hb : b ≠ 0) (h : c * b = a) : a / b = c := by rw [← h, Rat.mul_div_cancel hb]

/-- q + r/n against q + s/2 -/
theorem sticky (q r n : Nat) (hr : r < n) : (((2 * q + (r != 0).toNat : Nat) : Rat) * (n : Rat) - 2 * ((n * q + r : Nat) : Rat)).abs ≤ (n : Rat) ∧ (r = 0 → ((2 * q + (r != 0).toNat : Nat) : Rat) * (n : Rat) = 2 * ((n * q + r : Nat) : Rat)) := by
  have hr' : (r : Rat) < (n : Rat) := Rat.natCast_lt_natCast.2 hr
  have h0 : (0 : Rat) ≤ (r : Rat) := Rat.natCast_nonneg
  by_cases h : r = 0
  · subst h
    have e : ((2 * q + ((0 : Nat) != 0).toNat : Nat) : Rat) = 2 * (q : Rat) := by simp [Rat.natCast_mul, Rat.natCast_ofNat]
    have e2 : ((n * q + 0 : Nat) : Rat) = (n : Rat) * (q : Rat) := by simp [Rat.natCast_mul]
    rw [e, e2]
    have : 2 * (q : Rat) * (n : Rat) = 2 * ((n : Rat) * (q : Rat)) := by grind
    refine ⟨?_, fun _ => this⟩
    rw [this, Rat.sub_self, Rat.abs_zero]; exact Rat.natCast_nonneg
  · have e : ((2 * q + (r != 0).toNat : Nat) : Rat) = 2 * (q : Rat) + 1 := by
      have : (r != 0).toNat = 1 := by simp [h]
      rw [this, Rat.natCast_add, Rat.natCast_mul]; rfl
    have e2 : ((n * q + r : Nat) : Rat) = (n : Rat) * (q : Rat) + (r : Rat) := by rw [Rat.natCast_add, Rat.natCast_mul]
    rw [e, e2]
    refine ⟨abs_le.2 ⟨by grind, by grind⟩, fun h' => absurd h' h⟩

theorem quotient_num {a b : Datum} {s t : Bool} {m n : Nat} {i j : Int} (ha : a = .number s m i) (hb : b = .number t n j) (hn : n ≠ 0) (hm52 : m < 2 ^ 53) :
    ∃ u k q, a.quotient 54 b = some (.number u k q) ∧ (dval (.number u k q) - dval a / dval b).abs ≤ p2 (-54) * (dval a / dval b).abs ∧
      (n = 2 ^ 52 → dval (.number u k q) = dval a / dval b) := by
  subst ha; subst hb
  have hml : m.log2 ≤ 52 := by
    rcases Nat.eq_zero_or_pos m with h | h
    · subst h; rw [nat_log2_zero]; omega
    · have := (Nat.log2_lt (n := m) (k := 53) (by omega)).2 hm52; omega
  obtain ⟨more, hmore⟩ : ∃ x, x = 54 + n.log2 - m.log2 := ⟨_, rfl⟩
  obtain ⟨D, hD⟩ : ∃ x, x = m * 2 ^ more := ⟨_, rfl⟩
  refine ⟨s ^^ t, 2 * (D / n) + (D % n != 0).toNat, i - j - more - 1, ?_, ?_⟩
  · show (if n = 0 then _ else _) = _
    rw [if_neg hn, hD, hmore]
    simp only [Nat.shiftLeft_eq]
  have hdm := Nat.div_add_mod D n
  have hlt := Nat.mod_lt D (Nat.pos_of_ne_zero hn)
  obtain ⟨k1, k2⟩ := sticky (D / n) (D % n) n hlt
  have hnq : (0 : Rat) < (n : Rat) := Rat.natCast_pos.2 (Nat.pos_of_ne_zero hn)
  rw [hdm] at k1 k2
  -- the exact quotient
  have hex : dval (.number s m i) / dval (.number t n j) = sgn (s ^^ t) * (((m : Rat) / (n : Rat)) * p2 (i - j)) := by
    refine div_eq_of_mul ?_ ?_
    · show sgn t * ((n : Rat) * p2 j) ≠ 0
      have := p2_pos j
      have h5 : 0 < (n : Rat) * p2 j := Rat.mul_pos hnq this
      cases t <;> simp only [sgn] <;> grind
    · show sgn (s ^^ t) * (((m : Rat) / (n : Rat)) * p2 (i - j)) * (sgn t * ((n : Rat) * p2 j)) = sgn s * ((m : Rat) * p2 i)
      have h5 : (m : Rat) / (n : Rat) * (n : Rat) = m := Rat.div_mul_cancel (by grind)
      have h6 : p2 (i - j) * p2 j = p2 i := by rw [← p2_add]; congr 1; omega
      have h7 : sgn (s ^^ t) * sgn t = sgn s := by cases s <;> cases t <;> simp [sgn] <;> grind
      calc sgn (s ^^ t) * (((m : Rat) / (n : Rat)) * p2 (i - j)) * (sgn t * ((n : Rat) * p2 j)) = (sgn (s ^^ t) * sgn t) * (((m : Rat) / (n : Rat)) * (n : Rat)) * (p2 (i - j) * p2 j) := by grind
        _ = _ := by rw [h5, h6, h7]; grind
  have hu : p2 (i - j) = ((2 ^ more : Nat) : Rat) * p2 (i - j - more) := by rw [p2_shift]; congr 1; omega
  have hu2 : p2 (i - j - more) = 2 * p2 (i - j - more - 1) := by rw [← p2_succ]; congr 1; omega
  have hDq : (D : Rat) = (m : Rat) * ((2 ^ more : Nat) : Rat) := by rw [hD, Rat.natCast_mul]
  -- everything times n
  generalize hQ : ((2 * (D / n) + (D % n != 0).toNat : Nat) : Rat) = Q at *
  have hv : dval (.number (s ^^ t) (2 * (D / n) + (D % n != 0).toNat) (i - j - more - 1)) = sgn (s ^^ t) * (Q * p2 (i - j - more - 1)) := by rw [← hQ]; rfl
  have hexn : ((m : Rat) / (n : Rat)) * p2 (i - j) * (n : Rat) = (D : Rat) * (2 * p2 (i - j - more - 1)) := by
    have h5 : (m : Rat) / (n : Rat) * (n : Rat) = m := Rat.div_mul_cancel (by grind)
    rw [hu, hu2, hDq]
    calc _ = ((m : Rat) / (n : Rat) * (n : Rat)) * (((2 ^ more : Nat) : Rat) * (2 * p2 (i - j - more - 1))) := by grind
      _ = _ := by rw [h5]; grind
  rw [hex, hv]
  generalize hE : (m : Rat) / (n : Rat) * p2 (i - j) = E at *
  have hp := p2_pos (i - j - more - 1)
  generalize p2 (i - j - more - 1) = P at *
  refine ⟨?_, fun hn52 => ?_⟩
  · rw [sgn_sub_abs, sgn_abs]
    rcases Nat.eq_zero_or_pos m with hm0 | hm0
    · have hD0 : D = 0 := by rw [hD, hm0, Nat.zero_mul]
      have hr0 : D % n = 0 := by rw [hD0]; exact Nat.zero_mod n
      have h8 := k2 hr0
      rw [hD0] at h8 hexn
      have z : ((0 : Nat) : Rat) = 0 := rfl
      rw [z] at h8 hexn
      have hQ0 : Q = 0 := by
        have : Q * (n : Rat) = 0 := by rw [h8, Rat.mul_zero]
        rcases Rat.mul_eq_zero.1 this with h | h
        · exact h
        · grind
      have hE0 : E = 0 := by
        have : E * (n : Rat) = 0 := by rw [hexn, Rat.zero_mul]
        rcases Rat.mul_eq_zero.1 this with h | h
        · exact h
        · grind
      rw [hQ0, hE0, Rat.zero_mul, Rat.sub_self, Rat.abs_zero, Rat.mul_zero]; exact Rat.le_refl
    · -- |Q P - E| n ≤ n P, and E ≥ 2^53 * 2 P
      have hbig : 2 ^ 53 ≤ D / n := by rw [hD, hmore]; exact quot_big m n (by omega) hn (by omega)
      have hEbig : p2 54 * P ≤ E := by
        have h9 : 2 ^ 53 * n ≤ D := Nat.le_trans (Nat.mul_le_mul_right n hbig) (Nat.div_mul_le_self D n)
        have h10 : ((2 ^ 53 : Nat) : Rat) * (n : Rat) ≤ (D : Rat) := by rw [← Rat.natCast_mul]; exact Rat.natCast_le_natCast.2 h9
        have h11 : p2 54 = 2 * ((2 ^ 53 : Nat) : Rat) := by rw [← p2_nat, ← p2_succ]; rfl
        have hP0 : 0 ≤ 2 * P := by grind
        have h12 := Rat.mul_le_mul_of_nonneg_right h10 hP0
        rw [← hexn] at h12
        refine Rat.le_of_mul_le_mul_right (c := (n : Rat)) ?_ hnq
        rw [h11]
        have : 2 * ((2 ^ 53 : Nat) : Rat) * P * (n : Rat) = ((2 ^ 53 : Nat) : Rat) * (n : Rat) * (2 * P) := by grind
        rw [this]; exact h12
      have hdiff : (Q * P - E).abs ≤ P := by
        refine Rat.le_of_mul_le_mul_right (c := (n : Rat)) ?_ hnq
        have h13 : (Q * P - E).abs * (n : Rat) = ((Q * (n : Rat) - 2 * (D : Rat)) * P).abs := by
          rw [← Rat.abs_of_nonneg (x := (n : Rat)) (by grind), ← abs_mul, Rat.abs_of_nonneg (x := (n : Rat)) (by grind)]
          congr 1; grind
        rw [h13, abs_mul, Rat.abs_of_nonneg (x := P) (by grind), Rat.mul_comm P]
        exact Rat.mul_le_mul_of_nonneg_right k1 (by grind)
      have hE0 : 0 ≤ E := by have := Rat.mul_nonneg (p2_nonneg 54) (Rat.le_of_lt hp); grind
      rw [Rat.abs_of_nonneg hE0]
      refine Rat.le_trans hdiff ?_
      have h14 := Rat.mul_le_mul_of_nonneg_left hEbig (p2_nonneg (-54))
      rw [← Rat.mul_assoc, ← p2_add] at h14
      have : p2 (-54 + 54) = 1 := p2_zero
      rw [this, Rat.one_mul] at h14
      exact h14
  · have hr0 : D % n = 0 := by
      rw [hD, hn52, hmore]
      have : 54 + n.log2 - m.log2 = 52 + (54 + n.log2 - m.log2 - 52) := by
        have : n.log2 = 52 := by rw [hn52, Nat.log2_two_pow]
        omega
      rw [this, Nat.pow_add, ← Nat.mul_assoc, Nat.mul_right_comm, Nat.mul_mod_left]
    have h8 := k2 hr0
    congr 1
    have h15 : (Q * P) * (n : Rat) = E * (n : Rat) := by rw [hexn]; grind
    have h4 := congrArg (· * (n : Rat)⁻¹) h15
    simp only [Rat.mul_assoc, Rat.mul_inv_cancel _ (Rat.ne_of_gt hnq), Rat.mul_one] at h4
    exact h4

/-- The digits of a number that was read. -/
theorem read_digits {x : Nat} {s : Bool} {m : Nat} {i : Int} (h : double.read x = .number s m i) : m < 2 ^ 53 ∧ -1074 ≤ i ∧ i ≤ 971 := by
  unfold Format.read at h
  have hb : double.binade = 2 ^ 52 := rfl
  have hi : double.infRung = 2047 * 2 ^ 52 := rfl
  have hp : double.leastPlace = -1074 := rfl
  simp only [hb, hi, hp] at h
  generalize x % double.signWeight = r at h
  split at h
  · cases h; omega
  · split at h
    · cases h; omega
    · split at h <;> cases h

theorem V_zero_iff {x : Nat} {s : Bool} {m : Nat} {i : Int} (h : double.read x = .number s m i) (hv : V x ≠ 0) : m ≠ 0 := by
  rintro rfl
  apply hv
  unfold V; rw [h]
  show sgn s * (((0 : Nat) : Rat) * p2 i) = 0
  rw [show ((0 : Nat) : Rat) = 0 from rfl, Rat.zero_mul, Rat.mul_zero]

theorem div_some {x y : Nat} (hx : Num x) (hy : Num y) (h0 : V y ≠ 0) : double.div x y = some (fdiv x y) := by
  obtain ⟨s, m, i, hx⟩ := hx
  obtain ⟨t, n, j, hy⟩ := hy
  obtain ⟨u, k, q, h, _⟩ := quotient_num hx hy (V_zero_iff hy h0) (read_digits hx).1
  unfold fdiv Format.div
  rw [show double.fractionBits + 2 = 54 from rfl, h]; rfl
/-- Division by a power of two. -/
theorem div_rounded {x y : Nat} {j : Int} (hx : Num x) (hy : double.read y = .number false (2 ^ 52) j) (hb : (V x / V y).abs < p2 1023) : Rounded (V x / V y) (fdiv x y) := by
  obtain ⟨s, m, i, hx⟩ := hx
  obtain ⟨u, k, q, h, _, hv⟩ := quotient_num hx hy (by decide) (read_digits hx).1
  have : fdiv x y = double.write (.number u k q) := by
    unfold fdiv Format.div
    rw [show double.fractionBits + 2 = 54 from rfl, h]; rfl
  rw [this]
  exact rounded_of (hv rfl) hb
theorem lin2 {a b c d e : Rat} (h1 : a ≤ b * c + d) (h2 : c ≤ e) (hb : 0 ≤ b) : a ≤ b * e + d := by
  have := Rat.mul_le_mul_of_nonneg_left h2 hb; grind
theorem p2_m54 : p2 (-54) ≤ 1 := by rw [← p2_zero]; exact p2_le (by decide)
theorem p2_m53 : p2 (-53) = 2 * p2 (-54) := by rw [← p2_succ]; rfl
theorem p2_m52 : p2 (-52) = 4 * p2 (-54) := by rw [show (-52 : Int) = (-54 + 1) + 1 from by decide, p2_succ, p2_succ]; grind
/-- Division by any number other than zero. -/
theorem div_near {x y : Nat} (hx : Num x) (hy : Num y) (h0 : V y ≠ 0) (hb : (V x / V y).abs < p2 1022) :
    Num (fdiv x y) ∧ fdiv x y < 2 ^ 64 ∧ (V (fdiv x y) - V x / V y).abs ≤ p2 (-52) * (V x / V y).abs + p2 (-1075) := by
  obtain ⟨s, m, i, hx⟩ := hx
  obtain ⟨t, n, j, hy⟩ := hy
  obtain ⟨u, k, q, h, hv, _⟩ := quotient_num hx hy (V_zero_iff hy h0) (read_digits hx).1
  have hw : fdiv x y = double.write (.number u k q) := by
    unfold fdiv Format.div
    rw [show double.fractionBits + 2 = 54 from rfl, h]; rfl
  rw [hw]
  have hxy : dval (double.read x) / dval (double.read y) = V x / V y := rfl
  rw [hxy] at hv
  generalize hE : V x / V y = E at *
  generalize hA : dval (.number u k q) = A at *
  have hm := p2_m54
  have hp := p2_nonneg (-54)
  have hEn := Rat.abs_nonneg (x := E)
  have hA2 : A.abs ≤ (1 + p2 (-54)) * E.abs := by
    have h1 := abs_add (A - E) E
    rw [show A - E + E = A from by grind] at h1
    grind
  have hAle : A.abs ≤ 2 * E.abs := by
    have := Rat.mul_le_mul_of_nonneg_right (show 1 + p2 (-54) ≤ 2 by grind) hEn
    grind
  have hAb : A.abs < p2 1023 := by
    have : p2 1023 = 2 * p2 1022 := by rw [← p2_succ]; rfl
    rw [this]; grind
  have hr := rounded_of hA hAb
  refine ⟨hr.num, hr.lt, ?_⟩
  have h1 := abs_add (V (double.write (.number u k q)) - A) (A - E)
  rw [show V (double.write (.number u k q)) - A + (A - E) = V (double.write (.number u k q)) - E from by grind] at h1
  have h2 := hr.rel
  have h3 := lin2 h2 hA2 (p2_nonneg (-53))
  rw [p2_m53] at h3
  rw [p2_m52]
  have h4 : 2 * p2 (-54) * ((1 + p2 (-54)) * E.abs) ≤ 3 * (p2 (-54) * E.abs) := by
    have h5 : 0 ≤ p2 (-54) * E.abs := Rat.mul_nonneg hp hEn
    have h6 := Rat.mul_le_mul_of_nonneg_right (show 2 * (1 + p2 (-54)) ≤ 3 by 
      have : p2 (-54) ≤ p2 (-1) := p2_le (by decide)
      have e : 2 * p2 (-1) = 1 := by rw [← p2_succ]; exact p2_zero
      grind) h5
    grind
  grind

end Go.Proofs.Ygctaf
