/-
  THE SIGN, THE CUT TO AN INTEGER, COMPARISONS WITH CONSTANTS, ALSO OF WORDS THAT STAND FOR NO NUMBER.
-/
import Derived.Test.YgctafFl3
namespace Go.Proofs.Ygctaf
open Ieee

/-! ### The sign -/
theorem xor_low (b : Nat) (h : b < 2 ^ 63) : b ^^^ 2 ^ 63 = 2 ^ 63 + b := by
  have e : 2 ^ 63 + b = 2 ^ 63 ||| b := by
    have := Nat.two_pow_add_eq_or_of_lt h 1
    simpa using this
  rw [e]
  apply Nat.eq_of_testBit_eq
  intro i
  rw [Nat.testBit_xor, Nat.testBit_or]
  by_cases hi : i = 63
  · subst hi
    have : b.testBit 63 = false := Nat.testBit_lt_two_pow h
    rw [this]; simp
  · have : (2 ^ 63 : Nat).testBit i = false := by rw [Nat.testBit_two_pow]; simp; omega
    rw [this]; simp
theorem xor_high (b : Nat) (h : b < 2 ^ 63) : (2 ^ 63 + b) ^^^ 2 ^ 63 = b := by
  rw [← xor_low b h, Nat.xor_assoc, Nat.xor_self, Nat.xor_zero]
/-- -x -/
def fneg (x : Nat) : Nat := x ^^^ 2 ^ 63

theorem read_flip (x : Nat) (h : x < 2 ^ 64) : double.read (fneg x) = (double.read x).opposite := by
  have hs : double.signWeight = 2 ^ 63 := rfl
  have key : ∀ (a b : Nat) (n : Bool), a % 2 ^ 63 = b % 2 ^ 63 → (a / 2 ^ 63 % 2 == 1) = !n → (b / 2 ^ 63 % 2 == 1) = n → double.read a = (double.read b).opposite := by
    intro a b n h1 h2 h3
    unfold Format.read
    simp only [hs, h1, h2, h3]
    split
    · rfl
    · split
      · rfl
      · split <;> rfl
  rcases Nat.lt_or_ge x (2 ^ 63) with hlt | hge
  · unfold fneg
    rw [xor_low x hlt]
    refine key _ _ false (by omega) ?_ ?_
    · rw [show (2 ^ 63 + x) / 2 ^ 63 % 2 = 1 from by omega]; rfl
    · rw [show x / 2 ^ 63 % 2 = 0 from by omega]; rfl
  · obtain ⟨y, rfl⟩ : ∃ y, x = 2 ^ 63 + y := ⟨x - 2 ^ 63, by omega⟩
    unfold fneg
    rw [xor_high y (by omega)]
    refine key _ _ true (by omega) ?_ ?_
    · rw [show y / 2 ^ 63 % 2 = 0 from by omega]; rfl
    · rw [show (2 ^ 63 + y) / 2 ^ 63 % 2 = 1 from by omega]; rfl
theorem neg_num {x : Nat} (h : x < 2 ^ 64) (hx : Num x) : Num (fneg x) ∧ V (fneg x) = - V x := by
  obtain ⟨s, m, i, hx⟩ := hx
  have := opposite_num hx
  refine ⟨⟨!s, m, i, by rw [read_flip x h, this.1]⟩, ?_⟩
  unfold V; rw [read_flip x h, this.2]
theorem neg_lt {x : Nat} (h : x < 2 ^ 64) : fneg x < 2 ^ 64 := by
  unfold fneg
  exact Nat.xor_lt_two_pow h (by decide)

/-! ### Towards zero -/
theorem cut_zero (neg : Bool) (n drop : Nat) : Toward.zero.cut neg n drop = n / 2 ^ drop := by
  have hlog : n < 2 ^ (n.log2 + 1) := Nat.lt_log2_self
  unfold Toward.cut
  simp only [Nat.shiftLeft_eq, Nat.one_mul, Bool.toNat_false, Nat.add_zero]
  by_cases hd : drop ≤ n.log2 + 2
  · rw [Nat.min_eq_left hd]
  · rw [Nat.min_eq_right (by omega)]
    have hle : 2 ^ (n.log2 + 2) ≤ 2 ^ drop := Nat.pow_le_pow_right (by decide) (by omega)
    have hg : 2 ^ (n.log2 + 2) = 2 * 2 ^ (n.log2 + 1) := by rw [Nat.pow_succ]; omega
    rw [Nat.div_eq_of_lt (by omega), Nat.div_eq_of_lt (by omega)]

/-- The whole part of |v|. -/
theorem toInt_num {x : Nat} {s : Bool} {m : Nat} {i : Int} (hx : double.read x = .number s m i) :
    ∃ k : Nat, (double.read x).toInt .zero = some (if s then -(k : Int) else k) ∧ (k : Rat) ≤ (m : Rat) * p2 i ∧ (m : Rat) * p2 i < (k : Rat) + 1 := by
  refine ⟨Toward.zero.cut s (m <<< i.toNat) (-i).toNat, ?_, ?_, ?_⟩
  · rw [hx]
    show some (signed s _ 0) = _
    unfold signed
    simp only [Nat.shiftLeft_zero]
  all_goals
    rw [cut_zero, Nat.shiftLeft_eq]
    rcases Int.lt_or_le i 0 with h | h
    · have e0 : i.toNat = 0 := by omega
      rw [e0, Nat.pow_zero, Nat.mul_one]
      obtain ⟨d, hd⟩ : ∃ d : Nat, i = -(d : Int) := ⟨(-i).toNat, by omega⟩
      have ed : (-i).toNat = d := by omega
      rw [ed]
      have hp : p2 i * ((2 ^ d : Nat) : Rat) = 1 := by rw [← p2_nat, ← p2_add, hd, Int.add_left_neg, p2_zero]
      have hpos : (0 : Rat) < ((2 ^ d : Nat) : Rat) := Rat.natCast_pos.2 (Nat.two_pow_pos _)
      have h1 := Nat.div_add_mod m (2 ^ d)
      have h2 := Nat.mod_lt m (Nat.two_pow_pos d)
      have h1' : ((2 ^ d : Nat) : Rat) * ((m / 2 ^ d : Nat) : Rat) + ((m % 2 ^ d : Nat) : Rat) = (m : Rat) := by rw [← Rat.natCast_mul, ← Rat.natCast_add, h1]
      have h2' : ((m % 2 ^ d : Nat) : Rat) < ((2 ^ d : Nat) : Rat) := Rat.natCast_lt_natCast.2 h2
      have h3' : (0 : Rat) ≤ ((m % 2 ^ d : Nat) : Rat) := Rat.natCast_nonneg
      have hv : (m : Rat) * p2 i * ((2 ^ d : Nat) : Rat) = m := by rw [Rat.mul_assoc, hp, Rat.mul_one]
      generalize ((m / 2 ^ d : Nat) : Rat) = q at *
      generalize ((m % 2 ^ d : Nat) : Rat) = r at *
      generalize ((2 ^ d : Nat) : Rat) = g at *
      generalize (m : Rat) * p2 i = v at *
      clear hp h1 h2 ed hd e0 h
      first
        | (refine Rat.le_of_mul_le_mul_right (c := g) ?_ hpos; grind)
        | (refine Rat.lt_of_mul_lt_mul_right (c := g) ?_ (Rat.le_of_lt hpos); grind)
    · have e0 : (-i).toNat = 0 := by omega
      rw [e0, Nat.pow_zero, Nat.div_one]
      obtain ⟨d, hd⟩ : ∃ d : Nat, i = (d : Int) := ⟨i.toNat, by omega⟩
      have ed : i.toNat = d := by omega
      rw [ed, hd, p2_nat, Rat.natCast_mul]
      clear e0 ed hd h hx
      generalize (m : Rat) * ((2 ^ d : Nat) : Rat) = v
      grind

/-! ### Against constants -/
/-- What a word stands for. -/
theorem kinds (x : Nat) : Num x ∨ (∃ s, double.read x = .infinity s) ∨ (∃ s f, double.read x = .nan s f) := by
  cases h : double.read x with
  | number s m i => exact .inl ⟨s, m, i, h⟩
  | infinity s => exact .inr (.inl ⟨s, rfl⟩)
  | nan s f => exact .inr (.inr ⟨s, f, rfl⟩)
theorem order_nan {x y : Nat} {s : Bool} {f : Nat} (h : double.read x = .nan s f) : double.order x y = none := by
  unfold Format.order; rw [h]; rfl
theorem order_inf {x y : Nat} {s : Bool} (h : double.read x = .infinity s) (hy : Num y) : double.order x y = some (if s then .lt else .gt) := by
  obtain ⟨t, n, j, hy⟩ := hy
  unfold Format.order; rw [h, hy]; rfl

end Go.Proofs.Ygctaf
