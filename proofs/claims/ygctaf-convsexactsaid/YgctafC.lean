/-
  COMPLEX NUMBERS AS PAIRS OF WORDS; crude bounds: 2^e.
-/
import Derived.Test.YgctafFl5
namespace Go.Proofs.Ygctaf
open Ieee

def cmul (x y : Nat × Nat) : Nat × Nat := (fsub (fmul x.1 y.1) (fmul x.2 y.2), fadd (fmul x.1 y.2) (fmul x.2 y.1))
def cadd (x y : Nat × Nat) : Nat × Nat := (fadd x.1 y.1, fadd x.2 y.2)
def csub (x y : Nat × Nat) : Nat × Nat := (fsub x.1 y.1, fsub x.2 y.2)
def cconj (x : Nat × Nat) : Nat × Nat := (x.1, fneg x.2)
def cdivn (n : Nat) (x : Nat × Nat) : Nat × Nat := (fdiv x.1 (fint n), fdiv x.2 (fint n))

/-- A word that stands for a number of magnitude at most 2^e. -/
structure B1 (e : Int) (x : Nat) : Prop where
  num : Num x
  lt : x < 2 ^ 64
  le : (V x).abs ≤ p2 e
structure Bd (e : Int) (z : Nat × Nat) : Prop where
  re : B1 e z.1
  im : B1 e z.2

theorem B1.mono {e e' : Int} {x : Nat} (h : B1 e x) (he : e ≤ e') : B1 e' x := ⟨h.num, h.lt, Rat.le_trans h.le (p2_le he)⟩
theorem Bd.mono {e e' : Int} {z : Nat × Nat} (h : Bd e z) (he : e ≤ e') : Bd e' z := ⟨h.re.mono he, h.im.mono he⟩

theorem b1_of_rounded {e : Int} {v : Rat} {r : Nat} (he : 0 ≤ e) (hr : Rounded v r) (hv : v.abs ≤ p2 e) : B1 (e + 1) r := by
  refine ⟨hr.num, hr.lt, ?_⟩
  have h1 := abs_add (V r - v) v
  rw [show V r - v + v = V r from by grind] at h1
  have h2 := lin2 hr.rel hv (p2_nonneg (-53))
  have h3 : p2 (-53) * p2 e ≤ p2 (e - 1) := by rw [← p2_add]; exact p2_le (by omega)
  have h4 : p2 (-1075) ≤ p2 (e - 1) := p2_le (by omega)
  have h5 : p2 e = 2 * p2 (e - 1) := by rw [← p2_succ]; congr 1; omega
  rw [p2_succ]
  grind

theorem le_lt_1023 {e : Int} {v : Rat} (hv : v.abs ≤ p2 e) (he : e ≤ 1022) : v.abs < p2 1023 := lt_of_le_lt hv (p2_lt (by omega))

theorem B1.mul {e f : Int} {x y : Nat} (hx : B1 e x) (hy : B1 f y) (h0 : 0 ≤ e + f) (h1 : e + f ≤ 1000) : B1 (e + f + 1) (fmul x y) := by
  have hb : (V x * V y).abs ≤ p2 (e + f) := by
    rw [abs_mul, p2_add]
    have a := Rat.mul_le_mul_of_nonneg_right hx.le (Rat.abs_nonneg (x := V y))
    have b := Rat.mul_le_mul_of_nonneg_left hy.le (p2_nonneg e)
    exact Rat.le_trans a b
  exact b1_of_rounded h0 (mul_rounded hx.num hy.num (le_lt_1023 hb (by omega))) hb
theorem two_p2 {a b : Rat} {e : Int} (ha : a.abs ≤ p2 e) (hb : b.abs ≤ p2 e) : (a + b).abs ≤ p2 (e + 1) ∧ (a - b).abs ≤ p2 (e + 1) := by
  rw [p2_succ]
  have h1 := abs_add a b
  have h2 := abs_sub a b
  constructor <;> grind
theorem B1.add {e : Int} {x y : Nat} (hx : B1 e x) (hy : B1 e y) (h0 : 0 ≤ e) (h1 : e ≤ 1000) : B1 (e + 2) (fadd x y) := by
  have hb := (two_p2 hx.le hy.le).1
  exact (b1_of_rounded (by omega) (add_rounded hx.num hy.num (le_lt_1023 hb (by omega))) hb).mono (by omega)
theorem B1.sub {e : Int} {x y : Nat} (hx : B1 e x) (hy : B1 e y) (h0 : 0 ≤ e) (h1 : e ≤ 1000) : B1 (e + 2) (fsub x y) := by
  have hb := (two_p2 hx.le hy.le).2
  exact (b1_of_rounded (by omega) (sub_rounded hx.num hy.num (le_lt_1023 hb (by omega))) hb).mono (by omega)
theorem B1.neg {e : Int} {x : Nat} (hx : B1 e x) : B1 e (fneg x) := by
  have h := neg_num hx.lt hx.num
  refine ⟨h.1, neg_lt hx.lt, ?_⟩
  rw [h.2, Rat.abs_neg]; exact hx.le

theorem Bd.mul {e f : Int} {x y : Nat × Nat} (hx : Bd e x) (hy : Bd f y) (h0 : 0 ≤ e + f) (h1 : e + f ≤ 990) : Bd (e + f + 3) (cmul x y) :=
  ⟨((hx.re.mul hy.re h0 (by omega)).sub (hx.im.mul hy.im h0 (by omega)) (by omega) (by omega)).mono (by omega),
   ((hx.re.mul hy.im h0 (by omega)).add (hx.im.mul hy.re h0 (by omega)) (by omega) (by omega)).mono (by omega)⟩
theorem Bd.add {e : Int} {x y : Nat × Nat} (hx : Bd e x) (hy : Bd e y) (h0 : 0 ≤ e) (h1 : e ≤ 1000) : Bd (e + 2) (cadd x y) :=
  ⟨hx.re.add hy.re h0 h1, hx.im.add hy.im h0 h1⟩
theorem Bd.sub {e : Int} {x y : Nat × Nat} (hx : Bd e x) (hy : Bd e y) (h0 : 0 ≤ e) (h1 : e ≤ 1000) : Bd (e + 2) (csub x y) :=
  ⟨hx.re.sub hy.re h0 h1, hx.im.sub hy.im h0 h1⟩
theorem Bd.conj {e : Int} {x : Nat × Nat} (hx : Bd e x) : Bd e (cconj x) := ⟨hx.re, hx.im.neg⟩

/-- float64(2^k), 0 <= k <= 11 -/
theorem fint_pow (k : Nat) (hk : k ≤ 11) : double.read (fint ((2 ^ k : Nat) : Int)) = .number false (2 ^ 52) ((k : Int) - 52) := by
  have h : ∀ k : Fin 12, double.read (fint ((2 ^ k.1 : Nat) : Int)) = .number false (2 ^ 52) ((k.1 : Int) - 52) := by decide +kernel
  exact h ⟨k, by omega⟩
theorem fint_pow_val (k : Nat) (hk : k ≤ 11) : Num (fint ((2 ^ k : Nat) : Int)) ∧ V (fint ((2 ^ k : Nat) : Int)) = p2 k := by
  have h := fint_pow k hk
  refine ⟨⟨_, _, _, h⟩, ?_⟩
  unfold V; rw [h]
  show sgn false * (((2 ^ 52 : Nat) : Rat) * p2 ((k : Int) - 52)) = _
  rw [sgn_false, Rat.one_mul, p2_shift]; congr 1; omega
theorem p2_ne (i : Int) : p2 i ≠ 0 := by have := p2_pos i; grind
theorem div_p2 (x : Rat) (k : Int) : x / p2 k = x * p2 (-k) := div_eq_of_mul (p2_ne k) (by rw [Rat.mul_assoc, ← p2_add, Int.add_left_neg, p2_zero, Rat.mul_one])
theorem div_p2_abs (x : Rat) (k : Nat) : (x / p2 k).abs ≤ x.abs := by
  rw [div_p2, abs_mul, Rat.abs_of_nonneg (p2_nonneg _)]
  have h1 : p2 (-(k : Int)) ≤ 1 := by rw [← p2_zero]; exact p2_le (by omega)
  have := Rat.mul_le_mul_of_nonneg_left h1 (Rat.abs_nonneg (x := x))
  rw [Rat.mul_one] at this; exact this
theorem B1.divn {e : Int} {x : Nat} (k : Nat) (hk : k ≤ 11) (hx : B1 e x) (h0 : 0 ≤ e) (h1 : e ≤ 1000) : B1 (e + 1) (fdiv x (fint ((2 ^ k : Nat) : Int))) := by
  have hv := fint_pow_val k hk
  have hb : (V x / V (fint ((2 ^ k : Nat) : Int))).abs ≤ p2 e := by rw [hv.2]; exact Rat.le_trans (div_p2_abs _ _) hx.le
  exact b1_of_rounded h0 (div_rounded hx.num (fint_pow k hk) (le_lt_1023 hb (by omega))) hb
theorem Bd.divn {e : Int} {x : Nat × Nat} (k : Nat) (hk : k ≤ 11) (hx : Bd e x) (h0 : 0 ≤ e) (h1 : e ≤ 1000) : Bd (e + 1) (cdivn (2 ^ k) x) :=
  ⟨hx.re.divn k hk h0 h1, hx.im.divn k hk h0 h1⟩

/-- A small integer. -/
theorem B1.int {n : Int} {e : Nat} (h : n.natAbs ≤ 2 ^ e) (he : e ≤ 53) : B1 e (fint n) := by
  have h53 : n.natAbs ≤ 2 ^ 53 := Nat.le_trans h (Nat.pow_le_pow_right (by decide) he)
  have hr := fint_rounded n h53
  refine ⟨hr.1.num, hr.1.lt, ?_⟩
  rw [hr.2, natAbs_abs, p2_nat]
  exact Rat.natCast_le_natCast.2 h
theorem num_zero : Num 0 ∧ V 0 = 0 := by
  have h : double.read 0 = .number false 0 (-1074) := by decide +kernel
  refine ⟨⟨_, _, _, h⟩, ?_⟩
  unfold V; rw [h]
  show sgn false * (((0 : Nat) : Rat) * p2 (-1074)) = 0
  rw [show ((0 : Nat) : Rat) = 0 from rfl, Rat.zero_mul, Rat.mul_zero]
theorem B1.zero (e : Int) : B1 e 0 := ⟨num_zero.1, by decide, by rw [num_zero.2, Rat.abs_zero]; exact p2_nonneg e⟩

end Go.Proofs.Ygctaf
