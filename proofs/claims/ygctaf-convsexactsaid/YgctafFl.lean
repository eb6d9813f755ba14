/-
  THE PLAIN THEORY OF THE FLOATS ON THIS SEAT's ROADS: words of Ieee.double, their values as rationals, what rounding does. No Go in sight.
-/
import Ieee.Arith
import Derived.Laws.FloatBits
namespace Go.Proofs.Ygctaf
open Ieee

/-! ### Powers of two -/
def p2 (i : Int) : Rat := (2 : Rat) ^ i
theorem two_ne : (2 : Rat) ≠ 0 := by decide
theorem p2_pos (i : Int) : 0 < p2 i := Rat.zpow_pos (by decide)
theorem p2_nonneg (i : Int) : 0 ≤ p2 i := Rat.le_of_lt (p2_pos i)
theorem p2_zero : p2 0 = 1 := Rat.zpow_zero 2
theorem p2_add (i j : Int) : p2 (i + j) = p2 i * p2 j := Rat.zpow_add two_ne i j
theorem p2_nat (n : Nat) : p2 (n : Int) = ((2 ^ n : Nat) : Rat) := by
  unfold p2; rw [Rat.zpow_natCast, Rat.natCast_pow]; rfl
theorem p2_one : p2 1 = 2 := Rat.zpow_one 2
theorem p2_succ (i : Int) : p2 (i + 1) = 2 * p2 i := by rw [p2_add, p2_one, Rat.mul_comm]
theorem p2_le {i j : Int} (h : i ≤ j) : p2 i ≤ p2 j := by
  obtain ⟨n, rfl⟩ := Int.le.dest h
  rw [p2_add, p2_nat]
  have h1 : (1 : Rat) ≤ ((2 ^ n : Nat) : Rat) := by
    have : 1 ≤ 2 ^ n := Nat.one_le_two_pow
    exact_mod_cast Rat.natCast_le_natCast.2 this
  have := Rat.mul_le_mul_of_nonneg_left h1 (p2_nonneg i)
  rw [Rat.mul_one] at this; exact this
theorem p2_lt {i j : Int} (h : i < j) : p2 i < p2 j := by
  have h1 : p2 (i + 1) ≤ p2 j := p2_le h
  rw [p2_succ] at h1
  have := p2_pos i
  grind
theorem p2_neg (i : Int) : p2 i * p2 (-i) = 1 := by rw [← p2_add, Int.add_right_neg, p2_zero]
/-- p2 i * 2^n, as one power -/
theorem p2_shift (i : Int) (n : Nat) : ((2 ^ n : Nat) : Rat) * p2 i = p2 (i + n) := by rw [p2_add, p2_nat, Rat.mul_comm]

/-! ### Absolute values -/
theorem abs_le {x e : Rat} : x.abs ≤ e ↔ -e ≤ x ∧ x ≤ e := by
  rcases Rat.le_total (a := 0) (b := x) with h | h
  · rw [Rat.abs_of_nonneg h]; constructor
    · intro h'; exact ⟨by grind, h'⟩
    · exact fun h' => h'.2
  · rw [Rat.abs_of_nonpos h]; constructor
    · intro h'; exact ⟨by grind, by grind⟩
    · intro h'; grind
theorem abs_mul (x y : Rat) : (x * y).abs = x.abs * y.abs := by
  rcases Rat.le_total (a := 0) (b := x) with h | h <;> rcases Rat.le_total (a := 0) (b := y) with g | g
  · rw [Rat.abs_of_nonneg h, Rat.abs_of_nonneg g, Rat.abs_of_nonneg (Rat.mul_nonneg h g)]
  · have : 0 ≤ x * (-y) := Rat.mul_nonneg h (by grind)
    rw [Rat.abs_of_nonneg h, Rat.abs_of_nonpos g, Rat.abs_of_nonpos (by grind)]; grind
  · have : 0 ≤ (-x) * y := Rat.mul_nonneg (by grind) g
    rw [Rat.abs_of_nonpos h, Rat.abs_of_nonneg g, Rat.abs_of_nonpos (by grind)]; grind
  · have : 0 ≤ (-x) * (-y) := Rat.mul_nonneg (by grind) (by grind)
    rw [Rat.abs_of_nonpos h, Rat.abs_of_nonpos g, Rat.abs_of_nonneg (by grind)]; grind
theorem abs_add (x y : Rat) : (x + y).abs ≤ x.abs + y.abs := by
  have h1 := abs_le.1 (Rat.le_refl (a := x.abs))
  have h2 := abs_le.1 (Rat.le_refl (a := y.abs))
  exact abs_le.2 ⟨by grind, by grind⟩
theorem abs_sub (x y : Rat) : (x - y).abs ≤ x.abs + y.abs := by
  have h1 := abs_le.1 (Rat.le_refl (a := x.abs))
  have h2 := abs_le.1 (Rat.le_refl (a := y.abs))
  exact abs_le.2 ⟨by grind, by grind⟩
theorem sq_nonneg (x : Rat) : 0 ≤ x * x := by
  rcases Rat.le_total (a := 0) (b := x) with h | h
  · exact Rat.mul_nonneg h h
  · have : 0 ≤ (-x) * (-x) := Rat.mul_nonneg (by grind) (by grind)
    grind

/-! ### Values -/
def sgn (s : Bool) : Rat := if s then -1 else 1
theorem sgn_true : sgn true = -1 := rfl
theorem sgn_false : sgn false = 1 := rfl
theorem sgn_xor (s t : Bool) : sgn (s ^^ t) = sgn s * sgn t := by cases s <;> cases t <;> simp [sgn] <;> grind
theorem sgn_not (s : Bool) : sgn (!s) = - sgn s := by cases s <;> simp [sgn, Rat.neg_neg]
theorem sgn_abs (s : Bool) (x : Rat) : (sgn s * x).abs = x.abs := by cases s <;> simp [sgn, Rat.abs_neg, Rat.one_mul, Rat.neg_mul]

def dval : Datum → Rat
  | .number s m i => sgn s * ((m : Rat) * p2 i)
  | _ => 0

/-- The word stands for a number. -/
def Num (x : Nat) : Prop := ∃ s m i, double.read x = .number s m i
/-- Its value (0 where it stands for none). -/
def V (x : Nat) : Rat := dval (double.read x)

theorem signed_cast (s : Bool) (m up : Nat) : ((signed s m up : Int) : Rat) = sgn s * ((m : Rat) * ((2 ^ up : Nat) : Rat)) := by
  unfold signed sgn
  rw [Nat.shiftLeft_eq]
  cases s
  · simp only [Bool.false_eq_true, if_false]; rw [Rat.one_mul, Rat.intCast_natCast, Rat.natCast_mul]
  · simp only [if_true]; rw [Rat.intCast_neg, Rat.intCast_natCast, Rat.natCast_mul, Rat.neg_mul, Rat.one_mul]

theorem signed_val (s : Bool) (m : Nat) (i base : Int) (h : base ≤ i) : ((signed s m (i - base).toNat : Int) : Rat) * p2 base = dval (.number s m i) := by
  rw [signed_cast]
  have e : (((i - base).toNat : Nat) : Int) = i - base := Int.toNat_of_nonneg (by omega)
  have : ((2 ^ (i - base).toNat : Nat) : Rat) * p2 base = p2 i := by rw [p2_shift, e]; congr 1; omega
  show _ = sgn s * ((m : Rat) * p2 i)
  rw [← this]; grind

theorem natAbs_cast (n : Int) : sgn (decide (n < 0)) * ((n.natAbs : Nat) : Rat) = (n : Rat) := by
  rcases Int.lt_or_le n 0 with h | h
  · have e : ((n.natAbs : Nat) : Int) = -n := by omega
    have : ((n.natAbs : Nat) : Rat) = -(n : Rat) := by rw [← Rat.intCast_natCast, e, Rat.intCast_neg]
    rw [this]; simp [h, sgn, Rat.neg_mul, Rat.one_mul, Rat.neg_neg]
  · have e : ((n.natAbs : Nat) : Int) = n := by omega
    have : ((n.natAbs : Nat) : Rat) = (n : Rat) := by rw [← Rat.intCast_natCast, e]
    rw [this]; simp [Int.not_lt.2 h, sgn, Rat.one_mul]

/-- The exact sum, as a datum. -/
theorem sum_num {a b : Datum} {s t : Bool} {m n : Nat} {i j : Int} (ha : a = .number s m i) (hb : b = .number t n j) :
    ∃ u k q, a.sum b = some (.number u k q) ∧ dval (.number u k q) = dval a + dval b := by
  subst ha; subst hb
  let base := min i j
  let total := signed s m (i - base).toNat + signed t n (j - base).toNat
  refine ⟨_, _, _, rfl, ?_⟩
  have h1 := signed_val s m i base (Int.min_le_left _ _)
  have h2 := signed_val t n j base (Int.min_le_right _ _)
  rw [← h1, ← h2, ← Rat.add_mul, ← Rat.intCast_add]
  show sgn (if total = 0 then s && t else decide (total < 0)) * ((total.natAbs : Rat) * p2 base) = (total : Rat) * p2 base
  by_cases h0 : total = 0
  · rw [h0]; simp [Rat.zero_mul, Rat.mul_zero]
  · rw [if_neg h0, ← Rat.mul_assoc, natAbs_cast]

theorem opposite_num {a : Datum} {s : Bool} {m : Nat} {i : Int} (ha : a = .number s m i) : a.opposite = .number (!s) m i ∧ dval a.opposite = - dval a := by
  subst ha
  refine ⟨rfl, ?_⟩
  show sgn (!s) * _ = - (sgn s * _)
  rw [sgn_not, Rat.neg_mul]

theorem product_num {a b : Datum} {s t : Bool} {m n : Nat} {i j : Int} (ha : a = .number s m i) (hb : b = .number t n j) :
    ∃ u k q, a.product b = some (.number u k q) ∧ dval (.number u k q) = dval a * dval b := by
  subst ha; subst hb
  refine ⟨_, _, _, rfl, ?_⟩
  show sgn (s ^^ t) * (((m * n : Nat) : Rat) * p2 (i + j)) = (sgn s * (m * p2 i)) * (sgn t * (n * p2 j))
  rw [sgn_xor, p2_add, Rat.natCast_mul]; grind

end Go.Proofs.Ygctaf
