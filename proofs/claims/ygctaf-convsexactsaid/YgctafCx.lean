/-
  COMPLEX NUMBERS WITH RATIONAL PARTS; sums; squares.
-/
import Derived.Test.YgctafFl
namespace Go.Proofs.Ygctaf

structure Cx where
  re : Rat
  im : Rat

namespace Cx
theorem eq {a b : Cx} (h1 : a.re = b.re) (h2 : a.im = b.im) : a = b := by
  cases a; cases b; simp only at h1 h2; rw [h1, h2]
def zero : Cx := ⟨0, 0⟩
def one : Cx := ⟨1, 0⟩
def add (a b : Cx) : Cx := ⟨a.re + b.re, a.im + b.im⟩
def sub (a b : Cx) : Cx := ⟨a.re - b.re, a.im - b.im⟩
def neg (a : Cx) : Cx := ⟨-a.re, -a.im⟩
def mul (a b : Cx) : Cx := ⟨a.re * b.re - a.im * b.im, a.re * b.im + a.im * b.re⟩
def conj (a : Cx) : Cx := ⟨a.re, -a.im⟩
def scale (r : Rat) (a : Cx) : Cx := ⟨r * a.re, r * a.im⟩
def nsq (a : Cx) : Rat := a.re * a.re + a.im * a.im
def pow (a : Cx) : Nat → Cx
  | 0 => one
  | n + 1 => mul (pow a n) a

theorem nsq_nonneg (a : Cx) : 0 ≤ nsq a := by
  have h1 := sq_nonneg a.re; have h2 := sq_nonneg a.im; unfold nsq; grind
theorem nsq_mul (a b : Cx) : nsq (mul a b) = nsq a * nsq b := by unfold nsq mul; simp only; grind
theorem nsq_conj (a : Cx) : nsq (conj a) = nsq a := by unfold nsq conj; simp only; grind
theorem nsq_neg (a : Cx) : nsq (neg a) = nsq a := by unfold nsq neg; simp only; grind
theorem nsq_scale (r : Rat) (a : Cx) : nsq (scale r a) = r * r * nsq a := by unfold nsq scale; simp only; grind
theorem nsq_sub_comm (a b : Cx) : nsq (sub a b) = nsq (sub b a) := by unfold nsq sub; simp only; grind
theorem nsq_zero : nsq zero = 0 := by unfold nsq zero; simp only; grind
theorem nsq_one : nsq one = 1 := by unfold nsq one; simp only; grind
/-- The parallelogram. -/
theorem nsq_pm (a b : Cx) : nsq (add a b) + nsq (sub a b) = 2 * nsq a + 2 * nsq b := by unfold nsq add sub; simp only; grind
theorem nsq_add2 (a b : Cx) : nsq (add a b) ≤ 2 * nsq a + 2 * nsq b := by
  have h1 := nsq_pm a b; have h2 := nsq_nonneg (sub a b); grind
theorem nsq_sub2 (a b : Cx) : nsq (sub a b) ≤ 2 * nsq a + 2 * nsq b := by
  have h1 := nsq_pm a b; have h2 := nsq_nonneg (add a b); grind
/-- With a weight: 16 |a + b|^2 <= 17 |a|^2 + 272 |b|^2. -/
theorem nsq_add17 (a b : Cx) : 16 * nsq (add a b) ≤ 17 * nsq a + 272 * nsq b := by
  have h1 := sq_nonneg (a.re - 16 * b.re); have h2 := sq_nonneg (a.im - 16 * b.im)
  unfold nsq add; simp only; grind
theorem mul_comm (a b : Cx) : mul a b = mul b a := eq (by unfold mul; simp only; grind) (by unfold mul; simp only; grind)
theorem mul_assoc (a b c : Cx) : mul (mul a b) c = mul a (mul b c) := eq (by unfold mul; simp only; grind) (by unfold mul; simp only; grind)
theorem mul_one (a : Cx) : mul a one = a := eq (by unfold mul one; simp only; grind) (by unfold mul one; simp only; grind)
theorem one_mul (a : Cx) : mul one a = a := eq (by unfold mul one; simp only; grind) (by unfold mul one; simp only; grind)
theorem mul_add (a b c : Cx) : mul a (add b c) = add (mul a b) (mul a c) := eq (by unfold mul add; simp only; grind) (by unfold mul add; simp only; grind)
theorem add_mul (a b c : Cx) : mul (add a b) c = add (mul a c) (mul b c) := eq (by unfold mul add; simp only; grind) (by unfold mul add; simp only; grind)
theorem mul_sub (a b c : Cx) : mul a (sub b c) = sub (mul a b) (mul a c) := eq (by unfold mul sub; simp only; grind) (by unfold mul sub; simp only; grind)
theorem sub_mul (a b c : Cx) : mul (sub a b) c = sub (mul a c) (mul b c) := eq (by unfold mul sub; simp only; grind) (by unfold mul sub; simp only; grind)
theorem add_comm (a b : Cx) : add a b = add b a := eq (by unfold add; simp only; grind) (by unfold add; simp only; grind)
theorem add_assoc (a b c : Cx) : add (add a b) c = add a (add b c) := eq (by unfold add; simp only; grind) (by unfold add; simp only; grind)
theorem add_zero (a : Cx) : add a zero = a := eq (by unfold add zero; simp only; grind) (by unfold add zero; simp only; grind)
theorem zero_add (a : Cx) : add zero a = a := eq (by unfold add zero; simp only; grind) (by unfold add zero; simp only; grind)
theorem mul_zero (a : Cx) : mul a zero = zero := eq (by unfold mul zero; simp only; grind) (by unfold mul zero; simp only; grind)
theorem zero_mul (a : Cx) : mul zero a = zero := eq (by unfold mul zero; simp only; grind) (by unfold mul zero; simp only; grind)
theorem pow_add (a : Cx) (m : Nat) : ∀ n, pow a (m + n) = mul (pow a m) (pow a n)
  | 0 => (mul_one _).symm
  | n + 1 => by
    show mul (pow a (m + n)) a = mul (pow a m) (mul (pow a n) a)
    rw [pow_add a m n, mul_assoc]
theorem pow_one (a : Cx) : pow a 1 = a := one_mul a
theorem nsq_pow {a : Cx} (h : nsq a = 1) : ∀ n, nsq (pow a n) = 1
  | 0 => nsq_one
  | n + 1 => by show nsq (mul (pow a n) a) = 1; rw [nsq_mul, nsq_pow h n, h]; grind
theorem pow_mul (a : Cx) (m : Nat) : ∀ n, pow a (m * n) = pow (pow a m) n
  | 0 => rfl
  | n + 1 => by
    rw [Nat.mul_succ, pow_add, pow_mul a m n]; rfl
theorem conj_mul (a b : Cx) : conj (mul a b) = mul (conj a) (conj b) := eq (by unfold mul conj; simp only; grind) (by unfold mul conj; simp only; grind)
theorem conj_pow (a : Cx) : ∀ n, conj (pow a n) = pow (conj a) n
  | 0 => eq rfl (by show -(0 : Rat) = 0; grind)
  | n + 1 => by show conj (mul (pow a n) a) = mul (pow (conj a) n) (conj a); rw [conj_mul, conj_pow a n]
theorem conj_conj (a : Cx) : conj (conj a) = a := eq rfl (by show - -a.im = a.im; grind)
theorem conj_add (a b : Cx) : conj (add a b) = add (conj a) (conj b) := eq rfl (by unfold add conj; simp only; grind)
theorem conj_sub (a b : Cx) : conj (sub a b) = sub (conj a) (conj b) := eq rfl (by unfold sub conj; simp only; grind)
theorem mul_conj_self {a : Cx} (h : nsq a = 1) : mul a (conj a) = one := by
  unfold nsq at h
  exact eq (by unfold mul conj one; simp only; grind) (by unfold mul conj one; simp only; grind)
end Cx

/-! ### Sums -/
def sumR (n : Nat) (f : Nat → Rat) : Rat := match n with
  | 0 => 0
  | n + 1 => sumR n f + f n
theorem sumR_succ (n : Nat) (f : Nat → Rat) : sumR (n + 1) f = sumR n f + f n := rfl
theorem sumR_congr {n : Nat} {f g : Nat → Rat} (h : ∀ i, i < n → f i = g i) : sumR n f = sumR n g := by
  induction n with
  | zero => rfl
  | succ n ih => rw [sumR_succ, sumR_succ, ih (fun i hi => h i (by omega)), h n (by omega)]
theorem sumR_le {n : Nat} {f g : Nat → Rat} (h : ∀ i, i < n → f i ≤ g i) : sumR n f ≤ sumR n g := by
  induction n with
  | zero => exact Rat.le_refl
  | succ n ih =>
    have h1 := ih (fun i hi => h i (by omega))
    have h2 := h n (by omega)
    rw [sumR_succ, sumR_succ]; grind
theorem sumR_nonneg {n : Nat} {f : Nat → Rat} (h : ∀ i, i < n → 0 ≤ f i) : 0 ≤ sumR n f := by
  induction n with
  | zero => exact Rat.le_refl
  | succ n ih =>
    have h1 := ih (fun i hi => h i (by omega))
    have h2 := h n (by omega)
    rw [sumR_succ]; grind
theorem sumR_add (n : Nat) (f g : Nat → Rat) : sumR n (fun i => f i + g i) = sumR n f + sumR n g := by
  induction n with
  | zero => show (0 : Rat) = 0 + 0; grind
  | succ n ih => rw [sumR_succ, sumR_succ, sumR_succ, ih]; grind
theorem sumR_mul (n : Nat) (c : Rat) (f : Nat → Rat) : sumR n (fun i => c * f i) = c * sumR n f := by
  induction n with
  | zero => show (0 : Rat) = c * 0; grind
  | succ n ih => rw [sumR_succ, sumR_succ, ih]; grind
theorem sumR_const (n : Nat) (c : Rat) : sumR n (fun _ => c) = (n : Rat) * c := by
  induction n with
  | zero => show (0 : Rat) = ((0 : Nat) : Rat) * c; rw [show ((0 : Nat) : Rat) = 0 from rfl]; grind
  | succ n ih => rw [sumR_succ, ih, Rat.natCast_add]; show _ = ((n : Rat) + 1) * c; grind
/-- Two halves. -/
theorem sumR_split (m : Nat) (f : Nat → Rat) : ∀ n, sumR (m + n) f = sumR m f + sumR n (fun i => f (m + i))
  | 0 => by show sumR m f = sumR m f + 0; grind
  | n + 1 => by
    rw [← Nat.add_assoc, sumR_succ, sumR_succ, sumR_split m f n]; grind
/-- Even and odd places. -/
theorem sumR_pairs (f : Nat → Rat) : ∀ n, sumR (2 * n) f = sumR n (fun i => f (2 * i)) + sumR n (fun i => f (2 * i + 1))
  | 0 => by show (0 : Rat) = 0 + 0; grind
  | n + 1 => by
    rw [show 2 * (n + 1) = 2 * n + 1 + 1 from by omega, sumR_succ, sumR_succ, sumR_succ, sumR_succ, sumR_pairs f n]; grind
theorem sumR_ge {n : Nat} {f : Nat → Rat} (h : ∀ i, i < n → 0 ≤ f i) {j : Nat} (hj : j < n) : f j ≤ sumR n f := by
  induction n with
  | zero => omega
  | succ n ih =>
    rw [sumR_succ]
    have h1 : 0 ≤ sumR n f := sumR_nonneg (fun i hi => h i (by omega))
    have h2 := h n (by omega)
    by_cases e : j = n
    · subst e; grind
    · have := ih (fun i hi => h i (by omega)) (by omega); grind

/-- The energy of the first n entries. -/
def S2 (n : Nat) (x : Nat → Cx) : Rat := sumR n fun i => (x i).nsq
theorem S2_nonneg (n : Nat) (x : Nat → Cx) : 0 ≤ S2 n x := sumR_nonneg fun i _ => (x i).nsq_nonneg
theorem S2_congr {n : Nat} {x y : Nat → Cx} (h : ∀ i, i < n → x i = y i) : S2 n x = S2 n y := sumR_congr fun i hi => by rw [h i hi]
theorem S2_ge {n : Nat} (x : Nat → Cx) {j : Nat} (hj : j < n) : (x j).nsq ≤ S2 n x := sumR_ge (f := fun i => (x i).nsq) (fun i _ => (x i).nsq_nonneg) hj

def sumC (n : Nat) (f : Nat → Cx) : Cx := match n with
  | 0 => .zero
  | n + 1 => (sumC n f).add (f n)
theorem sumC_succ (n : Nat) (f : Nat → Cx) : sumC (n + 1) f = (sumC n f).add (f n) := rfl
theorem sumC_congr {n : Nat} {f g : Nat → Cx} (h : ∀ i, i < n → f i = g i) : sumC n f = sumC n g := by
  induction n with
  | zero => rfl
  | succ n ih => rw [sumC_succ, sumC_succ, ih (fun i hi => h i (by omega)), h n (by omega)]
theorem sumC_add (n : Nat) (f g : Nat → Cx) : sumC n (fun i => (f i).add (g i)) = (sumC n f).add (sumC n g) := by
  induction n with
  | zero => exact (Cx.add_zero _).symm
  | succ n ih => rw [sumC_succ, sumC_succ, sumC_succ, ih]; exact Cx.eq (by unfold Cx.add; simp only; grind) (by unfold Cx.add; simp only; grind)
theorem sumC_mul (n : Nat) (c : Cx) (f : Nat → Cx) : sumC n (fun i => c.mul (f i)) = c.mul (sumC n f) := by
  induction n with
  | zero => exact (Cx.mul_zero c).symm
  | succ n ih => rw [sumC_succ, sumC_succ, ih, Cx.mul_add]
theorem sumC_pairs (f : Nat → Cx) : ∀ n, sumC (2 * n) f = (sumC n (fun i => f (2 * i))).add (sumC n (fun i => f (2 * i + 1)))
  | 0 => (Cx.add_zero _).symm
  | n + 1 => by
    rw [show 2 * (n + 1) = 2 * n + 1 + 1 from by omega, sumC_succ, sumC_succ, sumC_succ, sumC_succ, sumC_pairs f n]
    exact Cx.eq (by unfold Cx.add; simp only; grind) (by unfold Cx.add; simp only; grind)
theorem sumC_split (m : Nat) (f : Nat → Cx) : ∀ n, sumC (m + n) f = (sumC m f).add (sumC n (fun i => f (m + i)))
  | 0 => (Cx.add_zero _).symm
  | n + 1 => by
    rw [← Nat.add_assoc, sumC_succ, sumC_succ, sumC_split m f n, Cx.add_assoc]

end Go.Proofs.Ygctaf
