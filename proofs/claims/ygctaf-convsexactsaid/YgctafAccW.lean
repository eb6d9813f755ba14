/-
  THE THREE WORDS THAT Acc.place ADDS.
-/
import Derived.Test.YgctafAcc3
namespace Go.Proofs.Ygctaf
open Go.RowKit

theorem dg_shift (A wd j : Nat) : dg ((A * 2 ^ (64 * wd) : Nat) : Int) (wd + j) = ((A / 2 ^ (64 * j) % 2 ^ 64 : Nat) : Int) := by
  unfold dg
  have e : ((A * 2 ^ (64 * wd) : Nat) : Int) / 2 ^ (64 * (wd + j)) = ((A * 2 ^ (64 * wd) / 2 ^ (64 * (wd + j)) : Nat) : Int) := by
    rw [Int.natCast_ediv, Int.natCast_pow]; rfl
  rw [e, Nat.mul_add, Nat.pow_add, Nat.mul_comm A, ← Nat.div_div_eq_div_mul, Nat.mul_div_cancel_left _ (Nat.two_pow_pos _)]
  rw [Int.natCast_emod]; rfl
theorem words_low {lo s t : Nat} (hlo : lo < 2 ^ 64) (ht : t + s = 64) : lo * 2 ^ s / 2 ^ 64 = lo / 2 ^ t ∧ lo / 2 ^ t < 2 ^ s := by
  have e : 2 ^ 64 = 2 ^ t * 2 ^ s := by rw [← Nat.pow_add, ht]
  constructor
  · rw [e, Nat.mul_div_mul_right _ _ (Nat.two_pow_pos _)]
  · rw [e] at hlo
    exact Nat.div_lt_of_lt_mul hlo

theorem place_words {hi lo wd s t : Nat} (hhi : hi < 2 ^ 64) (hlo : lo < 2 ^ 64) (ht : t + s = 64) :
    let y : Int := (((hi * 2 ^ 64 + lo) * 2 ^ s * 2 ^ (64 * wd) : Nat) : Int)
    dg y wd = IntKind.u64.wrap ((lo : Int) * 2 ^ s) ∧ dg y (wd + 1) = bits .or .u64 (IntKind.u64.wrap ((hi : Int) * 2 ^ s)) ((lo : Int) / 2 ^ t) ∧ dg y (wd + 2) = (hi : Int) / 2 ^ t ∧
    (∀ j, wd + 3 ≤ j → dg y j = 0) ∧ y % 2 ^ (64 * wd) = 0 := by
  intro y
  obtain ⟨l1, l2⟩ := words_low hlo ht
  have eB : 2 ^ 64 = 2 ^ s * 2 ^ t := by rw [← Nat.pow_add, Nat.add_comm, ht]
  have hA : (hi * 2 ^ 64 + lo) * 2 ^ s = hi * 2 ^ s * 2 ^ 64 + lo * 2 ^ s := by rw [Nat.add_mul, Nat.mul_right_comm]
  have hdiv : (hi * 2 ^ 64 + lo) * 2 ^ s / 2 ^ 64 = 2 ^ s * hi + lo / 2 ^ t := by
    rw [hA, Nat.add_comm, Nat.add_mul_div_right _ _ (Nat.two_pow_pos _), l1, Nat.add_comm, Nat.mul_comm hi]
  have hH : (2 ^ s * hi) % 2 ^ 64 = 2 ^ s * (hi % 2 ^ t) := by rw [eB, Nat.mul_mod_mul_left]
  have hmod : (2 ^ s * hi + lo / 2 ^ t) % 2 ^ 64 = 2 ^ s * (hi % 2 ^ t) + lo / 2 ^ t := by
    have hlt : hi % 2 ^ t < 2 ^ t := Nat.mod_lt _ (Nat.two_pow_pos _)
    have : 2 ^ s * (hi % 2 ^ t) + lo / 2 ^ t < 2 ^ 64 := by
      have := Nat.mul_le_mul_left (2 ^ s) (show hi % 2 ^ t + 1 ≤ 2 ^ t from hlt)
      rw [Nat.mul_add, Nat.mul_one, ← eB] at this
      omega
    rw [Nat.add_mod, hH, Nat.mod_eq_of_lt (show lo / 2 ^ t < 2 ^ 64 from Nat.lt_of_le_of_lt (Nat.div_le_self _ _) hlo), Nat.mod_eq_of_lt this]
  refine ⟨?_, ?_, ?_, ?_, ?_⟩
  · have := dg_shift ((hi * 2 ^ 64 + lo) * 2 ^ s) wd 0
    rw [Nat.add_zero, Nat.mul_zero, Nat.pow_zero, Nat.div_one] at this
    show dg (((hi * 2 ^ 64 + lo) * 2 ^ s * 2 ^ (64 * wd) : Nat) : Int) wd = _
    rw [this, hA, Nat.mul_add_mod_self_right, IntKind.wrap_u64]
    rw [Int.natCast_emod, Int.natCast_mul, Int.natCast_pow]; rfl
  · have := dg_shift ((hi * 2 ^ 64 + lo) * 2 ^ s) wd 1
    show dg (((hi * 2 ^ 64 + lo) * 2 ^ s * 2 ^ (64 * wd) : Nat) : Int) (wd + 1) = _
    rw [this, Nat.mul_one, hdiv, hmod]
    have e1 : IntKind.u64.wrap ((hi : Int) * 2 ^ s) = ((2 ^ s * (hi % 2 ^ t) : Nat) : Int) := by
      rw [IntKind.wrap_u64, ← hH, Int.natCast_emod, Int.natCast_mul, Int.natCast_pow, Int.mul_comm]; rfl
    have e2 : ((lo : Int) / 2 ^ t) = ((lo / 2 ^ t : Nat) : Int) := by rw [Int.natCast_ediv, Int.natCast_pow]; rfl
    have b1 : 2 ^ s * (hi % 2 ^ t) < 18446744073709551616 := by rw [← hH]; exact Nat.mod_lt _ (by decide)
    have b2 : lo / 2 ^ t < 18446744073709551616 := Nat.lt_of_le_of_lt (Nat.div_le_self _ _) hlo
    rw [e1, e2, u64_or_nat _ _ b1 b2, Nat.two_pow_add_eq_or_of_lt l2]
  · have := dg_shift ((hi * 2 ^ 64 + lo) * 2 ^ s) wd 2
    show dg (((hi * 2 ^ 64 + lo) * 2 ^ s * 2 ^ (64 * wd) : Nat) : Int) (wd + 2) = _
    rw [this, show 64 * 2 = 64 + 64 from rfl, Nat.pow_add, ← Nat.div_div_eq_div_mul, hdiv]
    have e1 : (2 ^ s * hi + lo / 2 ^ t) / 2 ^ 64 = hi / 2 ^ t := by
      rw [eB, ← Nat.div_div_eq_div_mul, Nat.mul_add_div (Nat.two_pow_pos _), Nat.div_eq_of_lt l2, Nat.add_zero]
    rw [e1, Nat.mod_eq_of_lt (Nat.lt_of_le_of_lt (Nat.div_le_self _ _) hhi), Int.natCast_ediv, Int.natCast_pow]; rfl
  · intro j hj
    obtain ⟨d, rfl⟩ : ∃ d, j = wd + (3 + d) := ⟨j - wd - 3, by omega⟩
    show dg (((hi * 2 ^ 64 + lo) * 2 ^ s * 2 ^ (64 * wd) : Nat) : Int) (wd + (3 + d)) = 0
    rw [dg_shift]
    have hlt : (hi * 2 ^ 64 + lo) * 2 ^ s < 2 ^ (64 * (3 + d)) := by
      have a1 : hi * 2 ^ 64 + lo < 2 ^ 128 := by omega
      have a2 : (hi * 2 ^ 64 + lo) * 2 ^ s < 2 ^ 128 * 2 ^ s := Nat.mul_lt_mul_of_pos_right a1 (Nat.two_pow_pos _)
      rw [← Nat.pow_add] at a2
      exact Nat.lt_of_lt_of_le a2 (Nat.pow_le_pow_right (by decide) (by omega))
    rw [Nat.div_eq_of_lt hlt]; rfl
  · show (((hi * 2 ^ 64 + lo) * 2 ^ s * 2 ^ (64 * wd) : Nat) : Int) % 2 ^ (64 * wd) = 0
    rw [Int.natCast_mul, Int.natCast_pow]
    exact Int.mul_emod_left _ _
end Go.Proofs.Ygctaf
