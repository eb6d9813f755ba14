/-
  fbits.Split64, law.ends, law.atMost AS PLAIN FUNCTIONS.
-/
import Derived.Test.YgctafNear
namespace Go.Proofs.Ygctaf
open Ieee

def fieldN (x : Nat) : Nat := x / 2 ^ 52 % 2048
def manN (x : Nat) : Nat := x % 2 ^ 52
def negN (x : Nat) : Bool := x / 2 ^ 63 != 0

/-- fbits.Split64: the sign, the mantissa, the exponent, the class. -/
def splitF (x : Nat) : Bool × Nat × Int × Nat :=
  if fieldN x = 2047 then
    if manN x ≠ 0 then (false, 0, 0, 3) else (negN x, 0, 0, 2)
  else if fieldN x ≠ 0 then (negN x, manN x + 2 ^ 52, (fieldN x : Int) - 1075, 1)
  else if manN x = 0 then (negN x, 0, 0, 0)
  else (negN x, manN x, -1074, 1)

theorem read_split (x : Nat) (hx : x < 2 ^ 64) :
    double.read x = (if fieldN x = 2047 then (if manN x ≠ 0 then .nan (negN x) (manN x) else .infinity (negN x))
      else if fieldN x ≠ 0 then .number (negN x) (manN x + 2 ^ 52) ((fieldN x : Int) - 1075) else .number (negN x) (manN x) (-1074)) := by
  have hs : double.signWeight = 2 ^ 63 := rfl
  have hb : double.binade = 2 ^ 52 := rfl
  have hi : double.infRung = 2047 * 2 ^ 52 := rfl
  have hp : double.leastPlace = -1074 := rfl
  have hneg : (x / 2 ^ 63 % 2 == 1) = negN x := by
    unfold negN
    have : x / 2 ^ 63 = 0 ∨ x / 2 ^ 63 = 1 := by omega
    rcases this with h | h <;> rw [h] <;> rfl
  unfold Format.read
  simp only [hs, hb, hi, hp, hneg]
  unfold fieldN manN
  have e1 : x % 2 ^ 63 % 2 ^ 52 = x % 2 ^ 52 := by omega
  have e2 : x % 2 ^ 63 / 2 ^ 52 = x / 2 ^ 52 % 2048 := by omega
  by_cases h1 : x % 2 ^ 63 < 2 ^ 52
  · rw [if_pos h1]
    have f0 : x / 2 ^ 52 % 2048 = 0 := by omega
    rw [f0, if_neg (by decide), if_neg (by decide)]
    congr 1; omega
  · rw [if_neg h1]
    by_cases h2 : x % 2 ^ 63 < 2047 * 2 ^ 52
    · rw [if_pos h2, e1, e2]
      have f1 : x / 2 ^ 52 % 2048 ≠ 2047 := by omega
      have f2 : x / 2 ^ 52 % 2048 ≠ 0 := by omega
      rw [if_neg f1, if_pos f2]
      congr 1 <;> omega
    · rw [if_neg h2]
      have f1 : x / 2 ^ 52 % 2048 = 2047 := by omega
      rw [if_pos f1]
      by_cases h3 : x % 2 ^ 63 = 2047 * 2 ^ 52
      · rw [if_pos h3, if_neg (by omega)]
      · rw [if_neg h3, if_pos (by omega), show x % 2 ^ 63 - 2047 * 2 ^ 52 = x % 2 ^ 52 from by omega]

/-- What the class tells. -/
theorem split_cases (x : Nat) (hx : x < 2 ^ 64) :
    (splitF x = (false, 0, 0, 3) ∧ ¬ Num x ∧ (∃ s f, double.read x = .nan s f)) ∨
    (splitF x = (negN x, 0, 0, 2) ∧ ¬ Num x ∧ double.read x = .infinity (negN x)) ∨
    (splitF x = (negN x, 0, 0, 0) ∧ Num x ∧ V x = 0 ∧ double.read x = .number (negN x) 0 (-1074)) ∨
    (∃ m e, splitF x = (negN x, m, e, 1) ∧ Num x ∧ double.read x = .number (negN x) m e ∧ m ≠ 0 ∧ m < 2 ^ 53 ∧ -1074 ≤ e ∧ e ≤ 971 ∧ V x = sgn (negN x) * ((m : Rat) * p2 e)) := by
  have hr := read_split x hx
  unfold splitF
  have hm : manN x < 2 ^ 52 := by unfold manN; omega
  have hf : fieldN x < 2048 := by unfold fieldN; omega
  by_cases h1 : fieldN x = 2047
  · rw [if_pos h1] at hr ⊢
    by_cases h2 : manN x ≠ 0
    · rw [if_pos h2] at hr ⊢
      exact .inl ⟨rfl, (by rintro ⟨s, m, i, h⟩; rw [hr] at h; cases h), _, _, hr⟩
    · rw [if_neg h2] at hr ⊢
      exact .inr (.inl ⟨rfl, (by rintro ⟨s, m, i, h⟩; rw [hr] at h; cases h), hr⟩)
  · rw [if_neg h1] at hr ⊢
    by_cases h2 : fieldN x ≠ 0
    · rw [if_pos h2] at hr ⊢
      exact .inr (.inr (.inr ⟨_, _, rfl, ⟨_, _, _, hr⟩, hr, by omega, by omega, by omega, by omega, by unfold V; rw [hr]; rfl⟩))
    · rw [if_neg h2] at hr ⊢
      by_cases h3 : manN x = 0
      · rw [if_pos h3]; rw [h3] at hr
        refine .inr (.inr (.inl ⟨rfl, ⟨_, _, _, hr⟩, ?_, hr⟩))
        unfold V; rw [hr]
        show sgn (negN x) * (((0 : Nat) : Rat) * p2 (-1074)) = 0
        rw [show ((0 : Nat) : Rat) = 0 from rfl, Rat.zero_mul, Rat.mul_zero]
      · rw [if_neg h3]
        exact .inr (.inr (.inr ⟨_, _, rfl, ⟨_, _, _, hr⟩, hr, h3, by omega, by omega, by omega, by unfold V; rw [hr]; rfl⟩))

/-! ### law.ends: the lowest and the highest 1 -/
/-- The lowest place below n at which m has a 1; -1 if there is none. -/
def lowN (m : Nat) : Nat → Int
  | 0 => -1
  | n + 1 => if lowN m n < 0 then (if m.testBit n then n else -1) else lowN m n
def highN (m : Nat) : Nat → Int
  | 0 => -1
  | n + 1 => if m.testBit n then n else highN m n

theorem highN_spec (m : Nat) : ∀ n, (highN m n = -1 ∧ ∀ i, i < n → m.testBit i = false) ∨ (∃ h : Nat, highN m n = h ∧ h < n ∧ m.testBit h = true ∧ ∀ i, h < i → i < n → m.testBit i = false)
  | 0 => .inl ⟨rfl, fun i hi => by omega⟩
  | n + 1 => by
    unfold highN
    by_cases hb : m.testBit n = true
    · rw [if_pos hb]; exact .inr ⟨n, rfl, by omega, hb, fun i h1 h2 => by omega⟩
    · rw [if_neg hb]
      rcases highN_spec m n with ⟨h1, h2⟩ | ⟨h, h1, h2, h3, h4⟩
      · refine .inl ⟨h1, fun i hi => ?_⟩
        by_cases e : i = n
        · subst e; simpa using hb
        · exact h2 i (by omega)
      · refine .inr ⟨h, h1, by omega, h3, fun i hi hi2 => ?_⟩
        by_cases e : i = n
        · subst e; simpa using hb
        · exact h4 i hi (by omega)
theorem lowN_spec (m : Nat) : ∀ n, (lowN m n = -1 ∧ ∀ i, i < n → m.testBit i = false) ∨ (∃ h : Nat, lowN m n = h ∧ h < n ∧ m.testBit h = true ∧ ∀ i, i < h → m.testBit i = false)
  | 0 => .inl ⟨rfl, fun i hi => by omega⟩
  | n + 1 => by
    unfold lowN
    rcases lowN_spec m n with ⟨h1, h2⟩ | ⟨h, h1, h2, h3, h4⟩
    · rw [h1, if_pos (by decide)]
      by_cases hb : m.testBit n = true
      · rw [if_pos hb]; exact .inr ⟨n, rfl, by omega, hb, h2⟩
      · rw [if_neg hb]
        refine .inl ⟨rfl, fun i hi => ?_⟩
        by_cases e : i = n
        · subst e; simpa using hb
        · exact h2 i (by omega)
    · rw [h1, if_neg (by omega)]
      exact .inr ⟨h, rfl, by omega, h3, h4⟩

theorem testBit_top {m h n : Nat} (hm : m < 2 ^ n) (h3 : m.testBit h = true) (h4 : ∀ i, h < i → i < n → m.testBit i = false) : m.log2 = h := by
  have hm0 : m ≠ 0 := by rintro rfl; simp at h3
  have h5 : m < 2 ^ (h + 1) := by
    apply Nat.lt_pow_two_of_testBit
    intro i hi
    rcases Nat.lt_or_ge i n with h' | h'
    · exact h4 i (by omega) h'
    · exact Nat.testBit_lt_two_pow (Nat.lt_of_lt_of_le hm (Nat.pow_le_pow_right (by decide) h'))
  have h6 : 2 ^ h ≤ m := Nat.ge_two_pow_of_testBit h3
  exact (Nat.log2_eq_iff hm0).2 ⟨h6, h5⟩

/-- For 0 < m < 2^64: high is log2 m; low = high just where m is a power of two. -/
theorem ends_spec (m : Nat) (h0 : m ≠ 0) (h64 : m < 2 ^ 64) : highN m 64 = (m.log2 : Int) ∧ (lowN m 64 = highN m 64 ↔ m = 2 ^ m.log2) ∧ m.log2 < 64 := by
  have hne : ¬ ∀ i, i < 64 → m.testBit i = false := by
    intro h
    apply h0
    apply Nat.eq_of_testBit_eq
    intro i
    rw [Nat.zero_testBit]
    rcases Nat.lt_or_ge i 64 with h' | h'
    · exact h i h'
    · exact Nat.testBit_lt_two_pow (Nat.lt_of_lt_of_le h64 (Nat.pow_le_pow_right (by decide) h'))
  rcases highN_spec m 64 with ⟨_, h⟩ | ⟨h, h1, h2, h3, h4⟩
  · exact absurd h hne
  rcases lowN_spec m 64 with ⟨_, h'⟩ | ⟨l, l1, l2, l3, l4⟩
  · exact absurd h' hne
  have hl := testBit_top h64 h3 h4
  refine ⟨by rw [h1, hl], ?_, by omega⟩
  rw [h1, l1, hl]
  constructor
  · intro e
    have e : l = h := by omega
    subst e
    apply Nat.eq_of_testBit_eq
    intro i
    rw [Nat.testBit_two_pow]
    by_cases e : i = l
    · subst e; rw [l3]; simp
    · have : decide (l = i) = false := by simp; omega
      rw [this]
      rcases Nat.lt_or_ge i l with h' | h'
      · exact l4 i h'
      · rcases Nat.lt_or_ge i 64 with h'' | h''
        · exact h4 i (by omega) h''
        · exact Nat.testBit_lt_two_pow (Nat.lt_of_lt_of_le h64 (Nat.pow_le_pow_right (by decide) h''))
  · intro e
    rw [e, Nat.testBit_two_pow] at l3
    have : h = l := by simpa using l3
    omega

/-- law.atMost -/
def atMostB (x : Nat) (e : Int) : Bool :=
  let s := splitF x
  if s.2.2.2 ≠ 1 then s.2.2.2 == 0
  else
    let top := s.2.2.1 + highN s.2.1 64
    decide (top < e) || (decide (top = e) && decide (lowN s.2.1 64 = highN s.2.1 64))

theorem atMostB_iff (x : Nat) (hx : x < 2 ^ 64) (e : Int) : atMostB x e = true ↔ Num x ∧ (V x).abs ≤ p2 e := by
  unfold atMostB
  rcases split_cases x hx with ⟨h, hn, _⟩ | ⟨h, hn, _⟩ | ⟨h, hn, hv, _⟩ | ⟨m, i, h, hn, hr, hm0, hm53, he1, he2, hv⟩
  · rw [h]; simp [hn]
  · rw [h]; simp [hn]
  · rw [h]; simp only [ne_eq]
    rw [hv, Rat.abs_zero]
    simp [hn, p2_nonneg]
  · rw [h]
    obtain ⟨e1, e2, e3⟩ := ends_spec m hm0 (by omega)
    have ha : (V x).abs = (m : Rat) * p2 i := by rw [hv, sgn_abs, Rat.abs_of_nonneg (Rat.mul_nonneg Rat.natCast_nonneg (p2_nonneg _))]
    simp only [ne_eq, not_true_eq_false, if_false]
    rw [ha, Bool.or_eq_true, Bool.and_eq_true, decide_eq_true_eq, decide_eq_true_eq, decide_eq_true_eq, e2, e1]
    have hlo := mag_lo m hm0 i
    have hhi := mag_hi m i
    constructor
    · rintro (h1 | ⟨h1, h2⟩)
      · refine ⟨hn, ?_⟩
        have := p2_le (show i + (m.log2 : Int) + 1 ≤ e by omega)
        exact Rat.le_trans (Rat.le_of_lt hhi) this
      · refine ⟨hn, ?_⟩
        rw [h2, p2_shift, h1]; exact Rat.le_refl
    · rintro ⟨_, h1⟩
      have h2 : i + (m.log2 : Int) ≤ e := p2_of_mul_le (Rat.le_trans hlo h1)
      rcases Int.lt_or_eq_of_le h2 with h3 | h3
      · exact .inl h3
      · refine .inr ⟨h3, ?_⟩
        rw [← h3, Int.add_comm, p2_add, p2_nat] at h1
        have h4 := Rat.le_of_mul_le_mul_right h1 (p2_pos i)
        have h5 := Rat.natCast_le_natCast.1 h4
        have h6 := Nat.log2_self_le hm0
        omega

theorem quarter_eq (x : Nat) (hx : x < 2 ^ 64) : atMostB x (-2) = quarterB x := by
  rw [Bool.eq_iff_iff, atMostB_iff x hx, quarterB_iff]

end Go.Proofs.Ygctaf
