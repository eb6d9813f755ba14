/-
  THE OPERATIONS ON WORDS: sums, differences, products, the sign, integers, the order.
-/
import Derived.Test.YgctafFl2
namespace Go.Proofs.Ygctaf
open Ieee

theorem p2_of_mul_le {i j : Int} (h : p2 i ≤ p2 j) : i ≤ j := by
  rcases Int.lt_or_le j i with h' | h'
  · have := p2_lt h'; grind
  · exact h'
theorem p2_of_mul_lt {i j : Int} (h : p2 i < p2 j) : i < j := by
  rcases Int.lt_or_le i j with h' | h'
  · exact h'
  · have := p2_le h'; grind

/-- What 'e' becomes by rounding. -/
structure Rounded (e : Rat) (r : Nat) : Prop where
  num : Num r
  lt : r < 2 ^ 64
  rel : (V r - e).abs ≤ p2 (-53) * e.abs + p2 (-1075)
  half : ∀ k : Int, -1021 ≤ k → e.abs < p2 k → (V r - e).abs ≤ p2 (k - 54)
  exact : ∀ (M : Int) (P : Int), -1074 ≤ P → M.natAbs ≤ 2 ^ 53 → e = (M : Rat) * p2 P → V r = e

theorem dval_abs (s : Bool) (m : Nat) (i : Int) : (dval (.number s m i)).abs = (m : Rat) * p2 i := by
  show (sgn s * ((m : Rat) * p2 i)).abs = _
  rw [sgn_abs, Rat.abs_of_nonneg (Rat.mul_nonneg Rat.natCast_nonneg (p2_nonneg _))]

theorem sgn_sub_abs (s : Bool) (a b : Rat) : (sgn s * a - sgn s * b).abs = (a - b).abs := by
  rw [← sgn_abs s (a - b)]; congr 1; grind
theorem lin1 (s b : Rat) (h : s = 0) (hb : 0 ≤ b) (c : Rat) : s ≤ c * s + b := by subst h; rw [Rat.mul_zero, Rat.zero_add]; exact hb
theorem le_add_of {a b c : Rat} (h : a ≤ b) (hc : 0 ≤ c) : a ≤ b + c := by grind
theorem le_add_of' {a b c : Rat} (h : a ≤ c) (hb : 0 ≤ b) : a ≤ b + c := by grind
theorem lt_of_le_lt {a b c : Rat} (h : a ≤ b) (h' : b < c) : a < c := by grind
theorem lt_of_lt_le {a b c : Rat} (h : a < b) (h' : b ≤ c) : a < c := by grind

theorem write_zero (s : Bool) (place : Int) : double.write (.number s 0 place) = double.word s (0 * 2 ^ 52 + 0) := by
  show double.nearest s 0 place = _
  unfold Format.nearest
  rw [if_pos rfl]
theorem rounded_zero (s : Bool) (place : Int) : Rounded 0 (double.write (.number s 0 place)) := by
  have hwlt : double.write (.number s 0 place) < 2 ^ 64 := double.write_lt _
  obtain ⟨m, i, hr, hv⟩ := read_rung s 0 0 (by decide) (.inl rfl) (by decide)
  have hw := write_zero s place
  have hV : V (double.write (.number s 0 place)) = 0 := by
    unfold V; rw [hw, hr]; show sgn s * ((m : Rat) * p2 i) = 0
    rw [hv, show ((0 : Nat) : Rat) = 0 from rfl, Rat.zero_mul, Rat.mul_zero]
  have hz : (V (double.write (.number s 0 place)) - 0).abs = 0 := by rw [hV, Rat.sub_self, Rat.abs_zero]
  refine ⟨⟨s, m, i, by rw [hw, hr]⟩, hwlt, ?_, fun k _ _ => ?_, fun _ _ _ _ _ => hV⟩
  · rw [hz, Rat.abs_zero, Rat.mul_zero, Rat.zero_add]
    exact p2_nonneg (-1075)
  · rw [hz]; exact p2_nonneg _

theorem rounded_of {e : Rat} {s : Bool} {mag : Nat} {place : Int} (he : dval (.number s mag place) = e) (hb : e.abs < p2 1023) :
    Rounded e (double.write (.number s mag place)) := by
  have hwlt : double.write (.number s mag place) < 2 ^ 64 := double.write_lt _
  by_cases hm : mag = 0
  · subst hm
    have e0 : e = 0 := by rw [← he]; show sgn s * (((0 : Nat) : Rat) * p2 place) = 0; rw [show ((0 : Nat) : Rat) = 0 from rfl, Rat.zero_mul, Rat.mul_zero]
    rw [e0]; exact rounded_zero s place
  · have habs : e.abs = (mag : Rat) * p2 place := by rw [← he, dval_abs]
    have hlo := mag_lo mag hm place
    have hhi := mag_hi mag place
    rw [← habs] at hlo hhi
    have htop : place + mag.log2 < 1023 := p2_of_mul_lt (lt_of_le_lt hlo hb)
    obtain ⟨kept, h1, h2, h3, h4, h5⟩ := nearest_spec s mag place hm
    have hl3 : lastPlace mag place = -1074 ∨ lastPlace mag place = place + mag.log2 - 52 := by unfold lastPlace; omega
    have hl : -1074 ≤ lastPlace mag place := Int.le_max_right _ _
    have hl2 : place + mag.log2 - 52 ≤ lastPlace mag place := Int.le_max_left _ _
    obtain ⟨E, hE⟩ : ∃ E : Nat, lastPlace mag place = (E : Int) - 1074 := ⟨(lastPlace mag place + 1074).toNat, by omega⟩
    have eE : (lastPlace mag place + 1074).toNat = E := by omega
    have hlt : E * 2 ^ 52 + kept < 2047 * 2 ^ 52 := by
      have : E ≤ 2044 := by omega
      omega
    rw [eE, Nat.min_eq_left (Nat.le_of_lt hlt)] at h5
    obtain ⟨m, i, hr, hv⟩ := read_rung s E kept h1 (by omega) hlt
    rw [← hE] at hv
    have hw : double.write (.number s mag place) = double.word s (E * 2 ^ 52 + kept) := h5
    have hV : V (double.write (.number s mag place)) = sgn s * ((kept : Rat) * p2 (lastPlace mag place)) := by
      unfold V; rw [hw, hr]; show sgn s * ((m : Rat) * p2 i) = _
      rw [hv]
    have hdiff : (V (double.write (.number s mag place)) - e).abs = ((kept : Rat) * p2 (lastPlace mag place) - (mag : Rat) * p2 place).abs := by
      rw [hV, ← he]
      exact sgn_sub_abs s _ _
    refine ⟨⟨s, m, i, by rw [hw, hr]⟩, hwlt, ?_, fun k hk hek => ?_, fun M P hP hM heM => ?_⟩
    · rw [hdiff]
      refine Rat.le_trans h3 ?_
      have hn := p2_nonneg (-1075)
      have hn2 : 0 ≤ p2 (-53) * e.abs := Rat.mul_nonneg (p2_nonneg _) Rat.abs_nonneg
      rcases hl3 with h | h
      · rw [h]
        rw [show (-1074 - 1 : Int) = -1075 from by decide]; exact le_add_of' Rat.le_refl hn2
      · have h6 := Rat.mul_le_mul_of_nonneg_left hlo (p2_nonneg (-53))
        rw [← p2_add, show (-53 + (place + (mag.log2 : Int))) = lastPlace mag place - 1 from by omega] at h6
        exact le_add_of h6 hn
    · rw [hdiff]
      refine Rat.le_trans h3 (p2_le ?_)
      have h7 : place + mag.log2 < k := p2_of_mul_lt (lt_of_le_lt hlo hek)
      omega
    · have hMabs : e.abs = ((M.natAbs : Nat) : Rat) * p2 P := by
        rw [heM, abs_mul, Rat.abs_of_nonneg (p2_nonneg P)]
        congr 1
        have := natAbs_cast M
        rw [← this, sgn_abs, Rat.abs_of_nonneg Rat.natCast_nonneg]
      have hM0 : M.natAbs ≠ 0 := by
        intro h0
        rw [h0] at hMabs
        have h7 : e.abs = 0 := by rw [hMabs]; exact Rat.zero_mul _
        have h8 := lt_of_lt_le (p2_pos (place + mag.log2)) hlo
        rw [h7] at h8
        exact Rat.lt_irrefl h8
      -- the last place is at most P (or P + 1 where M is 2^53)
      have key : ∃ M' : Nat, (mag : Rat) * p2 place = (M' : Rat) * p2 (lastPlace mag place) := by
        rw [← habs, hMabs]
        rcases Nat.lt_or_ge M.natAbs (2 ^ 53) with hlt' | hge'
        · have h9 : p2 (place + mag.log2) < p2 (P + 53) := by
            have : ((M.natAbs : Nat) : Rat) < ((2 ^ 53 : Nat) : Rat) := Rat.natCast_lt_natCast.2 hlt'
            have h10 := Rat.mul_lt_mul_of_pos_right this (p2_pos P)
            rw [← hMabs, p2_shift] at h10
            have : P + ((53 : Nat) : Int) = P + 53 := by omega
            rw [this] at h10
            exact lt_of_le_lt hlo h10
          have h11 := p2_of_mul_lt h9
          obtain ⟨d, hd⟩ : ∃ d : Nat, P = lastPlace mag place + d := ⟨(P - lastPlace mag place).toNat, by omega⟩
          refine ⟨M.natAbs * 2 ^ d, ?_⟩
          rw [Rat.natCast_mul, Rat.mul_assoc, p2_shift, ← hd]
        · have hM53 : M.natAbs = 2 ^ 53 := by omega
          rw [hM53] at hMabs ⊢
          rw [p2_shift] at hMabs ⊢
          have h9 : p2 (place + mag.log2) ≤ p2 (P + (53 : Nat)) := by rw [← hMabs]; exact hlo
          have h11 := p2_of_mul_le h9
          obtain ⟨d, hd⟩ : ∃ d : Nat, P + (53 : Nat) = lastPlace mag place + d := ⟨(P + (53 : Nat) - lastPlace mag place).toNat, by omega⟩
          exact ⟨2 ^ d, by rw [p2_shift, ← hd]⟩
      have := h4 key
      rw [hV, this, ← he]; rfl

def fadd (x y : Nat) : Nat := (double.add x y).getD 0
def fsub (x y : Nat) : Nat := (double.sub x y).getD 0
def fmul (x y : Nat) : Nat := (double.mul x y).getD 0
def fdiv (x y : Nat) : Nat := (double.div x y).getD 0

theorem add_some {x y : Nat} (hx : Num x) (hy : Num y) : double.add x y = some (fadd x y) := by
  obtain ⟨s, m, i, hx⟩ := hx
  obtain ⟨t, n, j, hy⟩ := hy
  obtain ⟨u, k, q, h, _⟩ := sum_num hx hy
  unfold fadd Format.add; rw [h]; rfl
theorem sub_some {x y : Nat} (hx : Num x) (hy : Num y) : double.sub x y = some (fsub x y) := by
  obtain ⟨s, m, i, hx⟩ := hx
  obtain ⟨t, n, j, hy⟩ := hy
  obtain ⟨u, k, q, h, _⟩ := sum_num hx (opposite_num hy).1
  unfold fsub Format.sub; rw [h]; rfl
theorem mul_some {x y : Nat} (hx : Num x) (hy : Num y) : double.mul x y = some (fmul x y) := by
  obtain ⟨s, m, i, hx⟩ := hx
  obtain ⟨t, n, j, hy⟩ := hy
  obtain ⟨u, k, q, h, _⟩ := product_num hx hy
  unfold fmul Format.mul; rw [h]; rfl

theorem add_rounded {x y : Nat} (hx : Num x) (hy : Num y) (hb : (V x + V y).abs < p2 1023) : Rounded (V x + V y) (fadd x y) := by
  obtain ⟨s, m, i, hx⟩ := hx
  obtain ⟨t, n, j, hy⟩ := hy
  obtain ⟨u, k, q, h, hv⟩ := sum_num hx hy
  have : fadd x y = double.write (.number u k q) := by unfold fadd Format.add; rw [h]; rfl
  rw [this]
  exact rounded_of hv hb
theorem sub_rounded {x y : Nat} (hx : Num x) (hy : Num y) (hb : (V x - V y).abs < p2 1023) : Rounded (V x - V y) (fsub x y) := by
  obtain ⟨s, m, i, hx⟩ := hx
  obtain ⟨t, n, j, hy⟩ := hy
  have ho := opposite_num hy
  obtain ⟨u, k, q, h, hv⟩ := sum_num hx ho.1
  have : fsub x y = double.write (.number u k q) := by unfold fsub Format.sub; rw [h]; rfl
  rw [this]
  refine rounded_of ?_ hb
  rw [hv, ho.2]; unfold V; grind
theorem mul_rounded {x y : Nat} (hx : Num x) (hy : Num y) (hb : (V x * V y).abs < p2 1023) : Rounded (V x * V y) (fmul x y) := by
  obtain ⟨s, m, i, hx⟩ := hx
  obtain ⟨t, n, j, hy⟩ := hy
  obtain ⟨u, k, q, h, hv⟩ := product_num hx hy
  have : fmul x y = double.write (.number u k q) := by unfold fmul Format.mul; rw [h]; rfl
  rw [this]
  exact rounded_of hv hb

/-- float64(n) -/
def fint (n : Int) : Nat := double.write (.number (decide (n < 0)) n.natAbs 0)
theorem fint_val (n : Int) : dval (.number (decide (n < 0)) n.natAbs 0) = (n : Rat) := by
  show sgn (decide (n < 0)) * (((n.natAbs : Nat) : Rat) * p2 0) = _
  rw [p2_zero, Rat.mul_one, natAbs_cast]
theorem natAbs_abs (n : Int) : ((n : Rat)).abs = ((n.natAbs : Nat) : Rat) := by
  have := natAbs_cast n
  rw [← this, sgn_abs, Rat.abs_of_nonneg Rat.natCast_nonneg]
theorem fint_rounded (n : Int) (h : n.natAbs ≤ 2 ^ 53) : Rounded (n : Rat) (fint n) ∧ V (fint n) = (n : Rat) := by
  have hb : ((n : Rat)).abs < p2 1023 := by
    rw [natAbs_abs]
    have h1 : ((n.natAbs : Nat) : Rat) ≤ ((2 ^ 53 : Nat) : Rat) := Rat.natCast_le_natCast.2 h
    have h2 : ((2 ^ 53 : Nat) : Rat) = p2 53 := (p2_nat 53).symm
    have h3 : p2 53 < p2 1023 := p2_lt (by decide)
    rw [h2] at h1
    exact lt_of_le_lt h1 h3
  have hr := rounded_of (fint_val n) hb
  exact ⟨hr, hr.exact n 0 (by decide) h (by rw [p2_zero, Rat.mul_one])⟩

/-! ### The order -/
theorem order_num {x y : Nat} (hx : Num x) (hy : Num y) :
    (double.order x y = some .lt ↔ V x < V y) ∧ (double.order x y = some .eq ↔ V x = V y) ∧ (double.order x y = some .gt ↔ V y < V x) := by
  obtain ⟨s, m, i, hx⟩ := hx
  obtain ⟨t, n, j, hy⟩ := hy
  have ho : double.order x y = some (compare (signed s m (i - min i j).toNat) (signed t n (j - min i j).toNat)) := by
    unfold Format.order; rw [hx, hy]; rfl
  have h1 : ((signed s m (i - min i j).toNat : Int) : Rat) * p2 (min i j) = V x := by
    unfold V; rw [hx]; exact signed_val s m i _ (Int.min_le_left _ _)
  have h2 : ((signed t n (j - min i j).toNat : Int) : Rat) * p2 (min i j) = V y := by
    unfold V; rw [hy]; exact signed_val t n j _ (Int.min_le_right _ _)
  rw [ho, ← h1, ← h2]
  have hp := p2_pos (min i j)
  generalize signed s m (i - min i j).toNat = A
  generalize signed t n (j - min i j).toNat = B
  refine ⟨?_, ?_, ?_⟩
  · rw [Rat.mul_lt_mul_right hp, Rat.intCast_lt_intCast]
    simp [Int.compare_eq_lt]
  · constructor
    · intro h
      simp at h
      rw [h]
    · intro h
      have h3 : (A : Rat) = (B : Rat) := by
        have h4 := congrArg (· * (p2 (min i j))⁻¹) h
        simp only [Rat.mul_assoc, Rat.mul_inv_cancel _ (Rat.ne_of_gt hp), Rat.mul_one] at h4
        exact h4
      have := Rat.intCast_inj.1 h3
      simp [this]
  · rw [Rat.mul_lt_mul_right hp, Rat.intCast_lt_intCast]
    simp [Int.compare_eq_gt]

end Go.Proofs.Ygctaf
