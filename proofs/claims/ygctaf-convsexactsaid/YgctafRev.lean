/-
  fft.Reverse, PLAIN: the reversal of k bits, its step, the exchanges.
-/
import Derived.Laws.BitsAllLaws
import Derived.WalkKit
namespace Go.Proofs.Ygctaf

/-- The k lowest bits of i in the other order. -/
def revN : Nat → Nat → Nat
  | 0, _ => 0
  | k + 1, i => (i % 2) * 2 ^ k + revN k (i / 2)
/-- One is added at the top (place t - 1), carrying downwards. -/
def incr : Nat → Nat → Nat
  | 0, j => j
  | t + 1, j => if 2 ^ t ≤ j then incr t (j - 2 ^ t) else j + 2 ^ t

theorem revN_lt : ∀ k i, revN k i < 2 ^ k
  | 0, _ => by simp [revN]
  | k + 1, i => by
    have := revN_lt k (i / 2)
    unfold revN
    rw [Nat.pow_succ]
    have h2 : i % 2 = 0 ∨ i % 2 = 1 := by omega
    rcases h2 with h | h <;> rw [h] <;> omega
theorem incr_rev : ∀ k i, incr k (revN k i) = revN k (i + 1)
  | 0, i => rfl
  | k + 1, i => by
    have h1 := revN_lt k (i / 2)
    unfold incr revN
    have h2 : i % 2 = 0 ∨ i % 2 = 1 := by omega
    rcases h2 with h | h
    · rw [h, if_neg (by omega), show (i + 1) % 2 = 1 from by omega, show (i + 1) / 2 = i / 2 from by omega]; omega
    · rw [h, if_pos (by omega), show (i + 1) % 2 = 0 from by omega, show (i + 1) / 2 = i / 2 + 1 from by omega]
      rw [show 1 * 2 ^ k + revN k (i / 2) - 2 ^ k = revN k (i / 2) from by omega, incr_rev k (i / 2)]; omega
theorem revN_zero : ∀ k, revN k 0 = 0
  | 0 => rfl
  | k + 1 => by unfold revN; rw [Nat.zero_div, revN_zero k]; simp
/-- From above. -/
theorem revN_top : ∀ (k a b : Nat), b < 2 ^ k → revN (k + 1) (a * 2 ^ k + b) = 2 * revN k b + a % 2
  | 0, a, b, h => by
    have : b = 0 := by omega
    subst this
    unfold revN; simp [revN]
  | k + 1, a, b, h => by
    rw [Nat.pow_succ] at h
    have e1 : (a * 2 ^ (k + 1) + b) % 2 = b % 2 := by
      rw [Nat.pow_succ]
      have : a * (2 ^ k * 2) = 2 * (a * 2 ^ k) := by rw [← Nat.mul_assoc, Nat.mul_comm]
      omega
    have e2 : (a * 2 ^ (k + 1) + b) / 2 = a * 2 ^ k + b / 2 := by
      rw [Nat.pow_succ]
      have : a * (2 ^ k * 2) = 2 * (a * 2 ^ k) := by rw [← Nat.mul_assoc, Nat.mul_comm]
      omega
    show ((a * 2 ^ (k + 1) + b) % 2) * 2 ^ (k + 1) + revN (k + 1) ((a * 2 ^ (k + 1) + b) / 2) = _
    rw [e1, e2, revN_top k a (b / 2) (by omega)]
    show _ = 2 * ((b % 2) * 2 ^ k + revN k (b / 2)) + a % 2
    rw [Nat.pow_succ]
    have : b % 2 * (2 ^ k * 2) = 2 * (b % 2 * 2 ^ k) := by rw [← Nat.mul_assoc, Nat.mul_comm]
    omega
theorem revN_revN : ∀ k i, i < 2 ^ k → revN k (revN k i) = i
  | 0, i, h => by have : i = 0 := by omega
                  subst this; rfl
  | k + 1, i, h => by
    rw [Nat.pow_succ] at h
    have h1 : revN (k + 1) i = (i % 2) * 2 ^ k + revN k (i / 2) := rfl
    rw [h1, revN_top k (i % 2) _ (revN_lt k _), revN_revN k (i / 2) (by omega)]
    omega

/-! ### The exchanges -/
/-- Behind i rounds. -/
def revState {α : Type} (k : Nat) (x : Nat → α) (i : Nat) : Nat → α := fun a => if min a (revN k a) < i then x (revN k a) else x a
theorem revState_zero {α : Type} (k : Nat) (x : Nat → α) : revState k x 0 = x := by
  funext a; unfold revState; rw [if_neg (by omega)]
theorem revState_end {α : Type} (k : Nat) (x : Nat → α) (a : Nat) (h : a < 2 ^ k) : revState k x (2 ^ k) a = x (revN k a) := by
  unfold revState; rw [if_pos (by omega)]
/-- i < rev i: an exchange. -/
theorem revState_swap {α : Type} (k : Nat) (x : Nat → α) (i : Nat) (hi : i < 2 ^ k) (hj : i < revN k i) (a : Nat) (ha : a < 2 ^ k) :
    revState k x (i + 1) a = if a = revN k i then revState k x i i else if a = i then revState k x i (revN k i) else revState k x i a := by
  have hr := revN_revN k i hi
  by_cases h1 : a = revN k i
  · rw [if_pos h1]; subst h1
    unfold revState
    rw [hr, if_pos (by omega), if_neg (by omega)]
  · rw [if_neg h1]
    by_cases h2 : a = i
    · rw [if_pos h2]; subst h2
      unfold revState
      rw [hr, if_pos (by omega), if_neg (by omega)]
    · rw [if_neg h2]
      unfold revState
      have h3 : revN k a ≠ i := by
        intro e
        apply h1
        rw [← e, revN_revN k a ha]
      have : (min a (revN k a) < i + 1) = (min a (revN k a) < i) := by rw [eq_iff_iff]; omega
      simp only [this]
/-- rev i <= i: nothing to do. -/
theorem revState_skip {α : Type} (k : Nat) (x : Nat → α) (i : Nat) (hi : i < 2 ^ k) (hj : revN k i ≤ i) (a : Nat) (ha : a < 2 ^ k) :
    revState k x (i + 1) a = revState k x i a := by
  have hr := revN_revN k i hi
  unfold revState
  by_cases h : min a (revN k a) < i
  · rw [if_pos h, if_pos (by omega)]
  · rw [if_neg h]
    by_cases h2 : min a (revN k a) < i + 1
    · rw [if_pos h2]
      have h3 : a = i ∨ revN k a = i := by omega
      rcases h3 with h3 | h3
      · subst h3
        have : revN k a = a := by omega
        rw [this]
      · have h4 : revN k i = a := by rw [← h3, revN_revN k a ha]
        have : revN k a = a := by omega
        rw [this]
    · rw [if_neg h2]

/-! ### Bits of int -/
theorem i64_and_nat (a b : Nat) (ha : a < 4611686018427387904) (hb : b < 4611686018427387904) : bits .and .i64 (a : Int) (b : Int) = ((a &&& b : Nat) : Int) := by
  have h1 := ofInt_u64 a (by omega)
  have h2 := ofInt_u64 b (by omega)
  have hle : a &&& b ≤ a := Nat.and_le_left
  show IntKind.i64.wrap (((BitVec.ofInt 64 (a : Int)) &&& (BitVec.ofInt 64 (b : Int))).toNat : Int) = _
  rw [BitVec.toNat_and, h1, h2, IntKind.wrap_i64]
  generalize a &&& b = c at *
  omega
theorem i64_or_nat (a b : Nat) (ha : a < 4611686018427387904) (hb : b < 4611686018427387904) : bits .or .i64 (a : Int) (b : Int) = ((a ||| b : Nat) : Int) := by
  have h1 := ofInt_u64 a (by omega)
  have h2 := ofInt_u64 b (by omega)
  have hle : a ||| b < 2 ^ 62 := Nat.or_lt_two_pow ha hb
  show IntKind.i64.wrap (((BitVec.ofInt 64 (a : Int)) ||| (BitVec.ofInt 64 (b : Int))).toNat : Int) = _
  rw [BitVec.toNat_or, h1, h2, IntKind.wrap_i64]
  generalize a ||| b = c at *
  omega
theorem i64_xor_nat (a b : Nat) (ha : a < 4611686018427387904) (hb : b < 4611686018427387904) : bits .xor .i64 (a : Int) (b : Int) = ((a ^^^ b : Nat) : Int) := by
  have h1 := ofInt_u64 a (by omega)
  have h2 := ofInt_u64 b (by omega)
  have hle : a ^^^ b < 2 ^ 62 := Nat.xor_lt_two_pow ha hb
  show IntKind.i64.wrap (((BitVec.ofInt 64 (a : Int)) ^^^ (BitVec.ofInt 64 (b : Int))).toNat : Int) = _
  rw [BitVec.toNat_xor, h1, h2, IntKind.wrap_i64]
  generalize a ^^^ b = c at *
  omega

/-- j < 2^(t+1): place t of j. -/
theorem bit_and (t j : Nat) (ht : t ≤ 20) (hj : j < 2 ^ (t + 1)) : (bits .and .i64 (j : Int) ((2 ^ t : Nat) : Int) != 0) = decide (2 ^ t ≤ j) := by
  have h1 : 2 ^ (t + 1) ≤ 2 ^ 21 := Nat.pow_le_pow_right (by decide) (by omega)
  have h2 : 2 ^ t ≤ 2 ^ 20 := Nat.pow_le_pow_right (by decide) (by omega)
  rw [i64_and_nat j (2 ^ t) (by omega) (by omega), nat_bit]
  rw [Nat.pow_succ] at hj
  have hp : 0 < 2 ^ t := Nat.two_pow_pos t
  generalize 2 ^ t = g at *
  rw [Bool.eq_iff_iff, bne_iff_ne, decide_eq_true_eq]
  by_cases h : g ≤ j
  · have e : j / g = 1 := by
      rw [Nat.div_eq_of_lt_le] <;> omega
    rw [e]; omega
  · rw [Nat.div_eq_of_lt (by omega)]; omega
theorem bit_or (t j : Nat) (ht : t ≤ 20) (hj : j < 2 ^ t) : bits .or .i64 (j : Int) ((2 ^ t : Nat) : Int) = ((j + 2 ^ t : Nat) : Int) := by
  have h2 : 2 ^ t ≤ 2 ^ 20 := Nat.pow_le_pow_right (by decide) (by omega)
  rw [i64_or_nat j (2 ^ t) (by omega) (by omega), Nat.or_comm, nat_join t (2 ^ t) j (by simp) hj, Nat.add_comm]
theorem bit_or0 (j : Nat) (hj : j < 4611686018427387904) : bits .or .i64 (j : Int) 0 = (j : Int) := by
  have := i64_or_nat j 0 hj (by decide)
  rw [Nat.or_zero] at this; exact this
theorem bit_xor (t j : Nat) (ht : t ≤ 20) (hj : j < 2 ^ (t + 1)) (hb : 2 ^ t ≤ j) : bits .xor .i64 (j : Int) ((2 ^ t : Nat) : Int) = ((j - 2 ^ t : Nat) : Int) := by
  have h1 : 2 ^ (t + 1) ≤ 2 ^ 21 := Nat.pow_le_pow_right (by decide) (by omega)
  have h2 : 2 ^ t ≤ 2 ^ 20 := Nat.pow_le_pow_right (by decide) (by omega)
  rw [i64_xor_nat j (2 ^ t) (by omega) (by omega)]
  congr 1
  rw [Nat.pow_succ] at hj
  obtain ⟨c, rfl⟩ : ∃ c, j = 2 ^ t + c := ⟨j - 2 ^ t, by omega⟩
  have hc : c < 2 ^ t := by omega
  have e : 2 ^ t + c = 2 ^ t ^^^ c := by
    apply Nat.eq_of_testBit_eq
    intro i
    have hj := nat_join t (2 ^ t) c (by simp) hc
    rw [← hj, Nat.testBit_or, Nat.testBit_xor]
    by_cases hi : i = t
    · subst hi
      rw [Nat.testBit_lt_two_pow hc]; simp
    · have : (2 ^ t : Nat).testBit i = false := by rw [Nat.testBit_two_pow]; simp; omega
      rw [this]; simp
  rw [e, Nat.xor_comm, ← Nat.xor_assoc, Nat.xor_self, Nat.zero_xor]
  rw [← e, Nat.add_sub_cancel_left]

end Go.Proofs.Ygctaf
