/-
  ROUNDING: what 'nearest' gives, read back.
-/
import Derived.Test.YgctafFl
namespace Go.Proofs.Ygctaf
open Ieee

theorem cut_spec (neg : Bool) (n drop : Nat) :
    2 * (Toward.even.cut neg n drop * 2 ^ drop) ≤ 2 * n + 2 ^ drop ∧ 2 * n ≤ 2 * (Toward.even.cut neg n drop * 2 ^ drop) + 2 ^ drop ∧
    (2 ^ drop ∣ n → Toward.even.cut neg n drop * 2 ^ drop = n) := by
  have hlog : n < 2 ^ (n.log2 + 1) := Nat.lt_log2_self
  unfold Toward.cut
  simp only [Nat.shiftLeft_eq, Nat.one_mul]
  by_cases hd : drop ≤ n.log2 + 2
  · rw [Nat.min_eq_left hd]
    have hg : 0 < 2 ^ drop := Nat.two_pow_pos _
    generalize 2 ^ drop = g at *
    have h1 := Nat.div_add_mod n g
    have h2 := Nat.mod_lt n hg
    have h3 : g ∣ n → n % g = 0 := fun h => Nat.mod_eq_zero_of_dvd h
    generalize n / g = q at *
    generalize n % g = r at *
    have e : q * g = g * q := Nat.mul_comm _ _
    have e1 : (q + 1) * g = g * q + g := by rw [Nat.add_mul, e, Nat.one_mul]
    generalize hb : (decide (g < 2 * r) || (g == 2 * r && q % 2 == 1)) = b
    cases b
    · simp only [Bool.toNat_false, Nat.add_zero]
      simp only [Bool.or_eq_false_iff, decide_eq_false_iff_not] at hb
      refine ⟨by omega, by omega, fun h => ?_⟩
      have := h3 h; omega
    · simp only [Bool.toNat_true]
      simp only [Bool.or_eq_true, decide_eq_true_eq, Bool.and_eq_true, beq_iff_eq] at hb
      refine ⟨by omega, by omega, fun h => ?_⟩
      have := h3 h; omega
  · rw [Nat.min_eq_right (by omega)]
    have hg : 2 ^ (n.log2 + 2) = 2 * 2 ^ (n.log2 + 1) := by rw [Nat.pow_succ]; omega
    have hle : 2 ^ (n.log2 + 2) ≤ 2 ^ drop := Nat.pow_le_pow_right (by decide) (by omega)
    have hlt : n < 2 ^ (n.log2 + 2) := by omega
    rw [Nat.div_eq_of_lt hlt, Nat.mod_eq_of_lt hlt]
    have hb : (decide (2 ^ (n.log2 + 2) < 2 * n) || (2 ^ (n.log2 + 2) == 2 * n && 0 % 2 == 1)) = false := by
      simp; omega
    rw [hb]
    simp only [Bool.toNat_false, Nat.add_zero, Nat.zero_mul]
    refine ⟨by omega, by omega, fun h => ?_⟩
    rcases Nat.eq_zero_or_pos n with h0 | h0
    · omega
    · have := Nat.le_of_dvd h0 h; omega

/-- How a word of an upper part 'e' (in binades) and a significand 'kept' reads. -/
theorem read_rung (neg : Bool) (e kept : Nat) (hk : kept ≤ 2 ^ 53) (h : e = 0 ∨ 2 ^ 52 ≤ kept) (hlt : e * 2 ^ 52 + kept < 2047 * 2 ^ 52) :
    ∃ m i, double.read (double.word neg (e * 2 ^ 52 + kept)) = .number neg m i ∧ (m : Rat) * p2 i = (kept : Rat) * p2 ((e : Int) - 1074) := by
  have hw1 : double.word neg (e * 2 ^ 52 + kept) / double.signWeight % 2 = neg.toNat := by
    have : double.signWeight = 2 ^ 63 := rfl
    unfold Format.word
    cases neg
    · simp only [Bool.false_eq_true, if_false, this, Bool.toNat_false]
      rw [Nat.div_eq_of_lt (by omega)]
    · simp only [if_true, this, Bool.toNat_true]
      rw [Nat.add_div_left _ (by decide), Nat.div_eq_of_lt (by omega)]
  have hw2 : double.word neg (e * 2 ^ 52 + kept) % double.signWeight = e * 2 ^ 52 + kept := by
    have : double.signWeight = 2 ^ 63 := rfl
    unfold Format.word
    cases neg
    · simp only [Bool.false_eq_true, if_false, this]
      rw [Nat.mod_eq_of_lt (by omega)]
    · simp only [if_true, this]
      rw [Nat.add_mod_left, Nat.mod_eq_of_lt (by omega)]
  have hneg : (neg.toNat == 1) = neg := by cases neg <;> rfl
  have hb : double.binade = 2 ^ 52 := rfl
  have hi : double.infRung = 2047 * 2 ^ 52 := rfl
  have hp : double.leastPlace = -1074 := rfl
  unfold Format.read
  simp only [hw1, hw2, hneg, hb, hi, hp]
  by_cases h1 : e * 2 ^ 52 + kept < 2 ^ 52
  · rw [if_pos h1]
    refine ⟨_, _, rfl, ?_⟩
    have : e = 0 := by omega
    subst this
    rw [show 0 * 2 ^ 52 + kept = kept from by omega]; rfl
  · rw [if_neg h1, if_pos hlt]
    refine ⟨_, _, rfl, ?_⟩
    by_cases h53 : kept = 2 ^ 53
    · subst h53
      have e1 : (e * 2 ^ 52 + 2 ^ 53) / 2 ^ 52 = e + 2 := by omega
      have e2 : (e * 2 ^ 52 + 2 ^ 53) % 2 ^ 52 = 0 := by omega
      rw [e1, e2]
      rw [show (-1074 + ((e + 2 - 1 : Nat) : Int)) = (e : Int) - 1074 + 1 from by omega, p2_succ, Nat.add_zero]
      rw [show (2 : Nat) ^ 53 = 2 ^ 52 * 2 from by decide, Rat.natCast_mul]
      rw [Rat.mul_assoc]; rfl
    by_cases hlow : kept < 2 ^ 52
    · exfalso; omega
    · have e1 : (e * 2 ^ 52 + kept) / 2 ^ 52 = e + 1 := by omega
      have e2 : 2 ^ 52 + (e * 2 ^ 52 + kept) % 2 ^ 52 = kept := by omega
      rw [e1, e2]
      rw [show (-1074 + ((e + 1 - 1 : Nat) : Int)) = (e : Int) - 1074 from by omega]

/-- The place of the last digit that is kept. -/
def lastPlace (mag : Nat) (place : Int) : Int := max (place + mag.log2 - 52) (-1074)

theorem mag_lo (mag : Nat) (hm : mag ≠ 0) (place : Int) : p2 (place + mag.log2) ≤ (mag : Rat) * p2 place := by
  rw [Int.add_comm, p2_add, p2_nat]
  exact Rat.mul_le_mul_of_nonneg_right (Rat.natCast_le_natCast.2 (Nat.log2_self_le hm)) (p2_nonneg _)
theorem mag_hi (mag : Nat) (place : Int) : (mag : Rat) * p2 place < p2 (place + mag.log2 + 1) := by
  rw [show place + (mag.log2 : Int) + 1 = ((mag.log2 + 1 : Nat) : Int) + place from by omega, p2_add, p2_nat]
  exact Rat.mul_lt_mul_of_pos_right (Rat.natCast_lt_natCast.2 Nat.lt_log2_self) (p2_pos _)

theorem nearest_spec (neg : Bool) (mag : Nat) (place : Int) (hm : mag ≠ 0) :
    ∃ kept : Nat, kept ≤ 2 ^ 53 ∧ (lastPlace mag place = -1074 ∨ 2 ^ 52 ≤ kept) ∧
      ((kept : Rat) * p2 (lastPlace mag place) - (mag : Rat) * p2 place).abs ≤ p2 (lastPlace mag place - 1) ∧
      ((∃ M : Nat, (mag : Rat) * p2 place = (M : Rat) * p2 (lastPlace mag place)) → (kept : Rat) * p2 (lastPlace mag place) = (mag : Rat) * p2 place) ∧
      double.nearest neg mag place = double.word neg (min ((lastPlace mag place + 1074).toNat * 2 ^ 52 + kept) (2047 * 2 ^ 52)) := by
  have hl : lastPlace mag place ≥ -1074 := Int.le_max_right _ _
  have hl2 : lastPlace mag place ≥ place + mag.log2 - 52 := Int.le_max_left _ _
  have hl3 : lastPlace mag place = -1074 ∨ lastPlace mag place = place + mag.log2 - 52 := by unfold lastPlace; omega
  have hdef : double.nearest neg mag place = double.word neg (min ((lastPlace mag place + 1074).toNat * 2 ^ 52 + Toward.even.cut neg (mag <<< (place - lastPlace mag place).toNat) (lastPlace mag place - place).toNat) (2047 * 2 ^ 52)) := by
    unfold Format.nearest
    rw [if_neg hm]
    rfl
  generalize hL : lastPlace mag place = L at *
  have hp := p2_nonneg place
  have hpL := p2_nonneg L
  obtain ⟨c1, c2, c3⟩ := cut_spec neg (mag <<< (place - L).toNat) (L - place).toNat
  generalize hk : Toward.even.cut neg (mag <<< (place - L).toNat) (L - place).toNat = kept at *
  have hmlo := mag_lo mag hm place
  have hmhi := mag_hi mag place
  rw [Nat.shiftLeft_eq] at c1 c2 c3
  -- two cases
  rcases Int.lt_or_le place L with hlt | hge
  · -- digits are dropped
    have e0 : (place - L).toNat = 0 := by omega
    rw [e0, Nat.pow_zero, Nat.mul_one] at c1 c2 c3
    obtain ⟨d, hd⟩ : ∃ d : Nat, L = place + d := ⟨(L - place).toNat, by omega⟩
    have ed : (L - place).toNat = d := by omega
    rw [ed] at c1 c2 c3
    have hpd : p2 L = ((2 ^ d : Nat) : Rat) * p2 place := by rw [p2_shift, hd]
    have c1' : 2 * ((kept : Rat) * ((2 ^ d : Nat) : Rat)) ≤ 2 * (mag : Rat) + ((2 ^ d : Nat) : Rat) := by
      have := Rat.natCast_le_natCast.2 c1
      simpa only [Rat.natCast_mul, Rat.natCast_add, Rat.natCast_ofNat] using this
    have c2' : 2 * (mag : Rat) ≤ 2 * ((kept : Rat) * ((2 ^ d : Nat) : Rat)) + ((2 ^ d : Nat) : Rat) := by
      have := Rat.natCast_le_natCast.2 c2
      simpa only [Rat.natCast_mul, Rat.natCast_add, Rat.natCast_ofNat] using this
    have hL1 : p2 (L - 1) * 2 = p2 L := by rw [show L = (L - 1) + 1 from by omega, p2_succ, show L - 1 + 1 - 1 = L - 1 from by omega, Rat.mul_comm]
    have m1 := Rat.mul_le_mul_of_nonneg_right c1' hp
    have m2 := Rat.mul_le_mul_of_nonneg_right c2' hp
    have herr : ((kept : Rat) * p2 L - (mag : Rat) * p2 place).abs ≤ p2 (L - 1) := by
      rw [abs_le, hpd]; rw [hpd] at hL1
      constructor <;> grind
    refine ⟨kept, ?_, ?_, herr, ?_, hdef⟩
    · -- kept ≤ 2^53
      by_cases hc : kept ≤ 2 ^ 53
      · exact hc
      · exfalso
        have hmm : mag < 2 ^ (mag.log2 + 1) := Nat.lt_log2_self
        have hdd : mag.log2 + 1 ≤ 53 + d := by omega
        have : mag < 2 ^ (53 + d) := Nat.lt_of_lt_of_le hmm (Nat.pow_le_pow_right (by decide) hdd)
        rw [Nat.pow_add] at this
        have h1 : (2 ^ 53 + 1) * 2 ^ d ≤ kept * 2 ^ d := Nat.mul_le_mul_right _ (by omega)
        have hpos : 0 < 2 ^ d := Nat.two_pow_pos _
        generalize 2 ^ d = g at *
        generalize kept * g = kg at *
        omega
    · rcases hl3 with h | h
      · exact .inl h
      · right
        have hmm := Nat.log2_self_le hm
        have hdd : mag.log2 = 52 + d := by omega
        rw [hdd, Nat.pow_add] at hmm
        by_cases hc : 2 ^ 52 ≤ kept
        · exact hc
        · exfalso
          have h1 : kept * 2 ^ d ≤ (2 ^ 52 - 1) * 2 ^ d := Nat.mul_le_mul_right _ (by omega)
          have hpos : 0 < 2 ^ d := Nat.two_pow_pos _
          generalize 2 ^ d = g at *
          generalize kept * g = kg at *
          omega
    · rintro ⟨M, hM⟩
      have hmd : mag = M * 2 ^ d := by
        rw [hpd, ← Rat.mul_assoc] at hM
        have := p2_pos place
        have h3 : (mag : Rat) = (M : Rat) * ((2 ^ d : Nat) : Rat) := by
          have h4 := congrArg (· * (p2 place)⁻¹) hM
          simp only [Rat.mul_assoc, Rat.mul_inv_cancel _ (Rat.ne_of_gt this), Rat.mul_one] at h4
          exact h4
        rw [← Rat.natCast_mul] at h3
        exact Rat.natCast_inj.1 h3
      have := c3 ⟨M, by rw [hmd, Nat.mul_comm]⟩
      rw [hpd, ← Rat.mul_assoc, ← Rat.natCast_mul, this]
  · -- exact
    have e0 : (L - place).toNat = 0 := by omega
    rw [e0, Nat.pow_zero] at c3
    simp only [Nat.mul_one] at c3
    have hk2 := c3 (Nat.one_dvd _)
    obtain ⟨d, hd⟩ : ∃ d : Nat, place = L + d := ⟨(place - L).toNat, by omega⟩
    have ed : (place - L).toNat = d := by omega
    rw [ed] at hk2
    have hex : (kept : Rat) * p2 L = (mag : Rat) * p2 place := by
      rw [hk2, Rat.natCast_mul, Rat.mul_assoc, p2_shift, hd]
    refine ⟨kept, ?_, ?_, ?_, fun _ => hex, hdef⟩
    · have hmm : mag < 2 ^ (mag.log2 + 1) := Nat.lt_log2_self
      have hdd : mag.log2 + 1 + d ≤ 53 := by omega
      have h1 : mag * 2 ^ d < 2 ^ (mag.log2 + 1) * 2 ^ d := Nat.mul_lt_mul_of_pos_right hmm (Nat.two_pow_pos _)
      rw [← Nat.pow_add] at h1
      have h2 : 2 ^ (mag.log2 + 1 + d) ≤ 2 ^ 53 := Nat.pow_le_pow_right (by decide) hdd
      omega
    · rcases hl3 with h | h
      · exact .inl h
      · right
        have hmm := Nat.log2_self_le hm
        have hdd : mag.log2 + d = 52 := by omega
        have h1 : 2 ^ mag.log2 * 2 ^ d ≤ mag * 2 ^ d := Nat.mul_le_mul_right _ hmm
        rw [← Nat.pow_add, hdd] at h1
        omega
    · rw [hex, Rat.sub_self, Rat.abs_zero]; exact p2_nonneg _

end Go.Proofs.Ygctaf
