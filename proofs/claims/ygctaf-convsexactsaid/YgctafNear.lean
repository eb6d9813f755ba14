/-
  fft.Nearest AND fft.quarter AS PLAIN FUNCTIONS OF WORDS.
-/
import Derived.Test.YgctafFl4
namespace Go.Proofs.Ygctaf
open Ieee

/-- A word 2^k, -2^k: its reading told by the kernel. -/
theorem const_val {c : Nat} {s : Bool} {i : Int} (h : double.read c = .number s (2 ^ 52) i) : Num c ∧ V c = sgn s * p2 (i + 52) := by
  refine ⟨⟨_, _, _, h⟩, ?_⟩
  unfold V; rw [h]
  show sgn s * (((2 ^ 52 : Nat) : Rat) * p2 i) = _
  rw [p2_shift]; rfl
theorem c52 : Num 4841369599423283200 ∧ V 4841369599423283200 = p2 52 := by
  have := const_val (c := 4841369599423283200) (s := false) (i := 0) (by decide +kernel)
  rw [sgn_false, Rat.one_mul] at this; exact this
theorem n52 : Num 14064741636278059008 ∧ V 14064741636278059008 = - p2 52 := by
  have := const_val (c := 14064741636278059008) (s := true) (i := 0) (by decide +kernel)
  rw [sgn_true, Rat.neg_mul, Rat.one_mul] at this; exact this
theorem c05 : Num 4602678819172646912 ∧ V 4602678819172646912 = p2 (-1) := by
  have := const_val (c := 4602678819172646912) (s := false) (i := -53) (by decide +kernel)
  rw [sgn_false, Rat.one_mul] at this; exact this
theorem n05 : Num 13826050856027422720 ∧ V 13826050856027422720 = - p2 (-1) := by
  have := const_val (c := 13826050856027422720) (s := true) (i := -53) (by decide +kernel)
  rw [sgn_true, Rat.neg_mul, Rat.one_mul] at this; exact this
theorem c025 : Num 4598175219545276416 ∧ V 4598175219545276416 = p2 (-2) := by
  have := const_val (c := 4598175219545276416) (s := false) (i := -54) (by decide +kernel)
  rw [sgn_false, Rat.one_mul] at this; exact this
theorem n025 : Num 13821547256400052224 ∧ V 13821547256400052224 = - p2 (-2) := by
  have := const_val (c := 13821547256400052224) (s := true) (i := -54) (by decide +kernel)
  rw [sgn_true, Rat.neg_mul, Rat.one_mul] at this; exact this

/-! ### The comparisons, as the walk spells them -/
def ltB (x y : Nat) : Bool := double.order x y == some .lt
def gtB (x y : Nat) : Bool := double.order x y == some .gt
def leB (x y : Nat) : Bool := double.order x y == some .lt || double.order x y == some .eq
def geB (x y : Nat) : Bool := double.order x y == some .gt || double.order x y == some .eq

theorem ltB_iff {x y : Nat} (hx : Num x) (hy : Num y) : ltB x y = true ↔ V x < V y := by
  unfold ltB; rw [beq_iff_eq]; exact (order_num hx hy).1
theorem gtB_iff {x y : Nat} (hx : Num x) (hy : Num y) : gtB x y = true ↔ V y < V x := by
  unfold gtB; rw [beq_iff_eq]; exact (order_num hx hy).2.2
theorem leB_iff {x y : Nat} (hx : Num x) (hy : Num y) : leB x y = true ↔ V x ≤ V y := by
  unfold leB
  rw [Bool.or_eq_true, beq_iff_eq, beq_iff_eq, (order_num hx hy).1, (order_num hx hy).2.1]
  constructor
  · rintro (h | h) <;> grind
  · intro h; rcases Rat.le_iff_lt_or_eq.1 h with h | h <;> simp [h]
theorem geB_iff {x y : Nat} (hx : Num x) (hy : Num y) : geB x y = true ↔ V y ≤ V x := by
  unfold geB
  rw [Bool.or_eq_true, beq_iff_eq, beq_iff_eq, (order_num hx hy).2.2, (order_num hx hy).2.1]
  constructor
  · rintro (h | h) <;> grind
  · intro h; rcases Rat.le_iff_lt_or_eq.1 h with h | h <;> simp [h]

/-- fft.quarter -/
def quarterB (x : Nat) : Bool := leB x 4598175219545276416 && geB x 13821547256400052224

theorem two_consts {x a b : Nat} (ha : Num a) (hb : Num b) (h1 : double.order x a = some .lt ∨ double.order x a = some .eq) (h2 : double.order x b = some .gt ∨ double.order x b = some .eq) : Num x := by
  rcases kinds x with h | ⟨s, h⟩ | ⟨s, f, h⟩
  · exact h
  · rw [order_inf h ha] at h1; rw [order_inf h hb] at h2
    cases s <;> simp at h1 h2
  · rw [order_nan h] at h1; simp at h1

theorem quarterB_iff (x : Nat) : quarterB x = true ↔ Num x ∧ (V x).abs ≤ p2 (-2) := by
  unfold quarterB
  rw [Bool.and_eq_true]
  constructor
  · rintro ⟨h1, h2⟩
    have hn : Num x := by
      unfold leB at h1; unfold geB at h2
      rw [Bool.or_eq_true, beq_iff_eq, beq_iff_eq] at h1 h2
      exact two_consts c025.1 n025.1 h1 h2
    refine ⟨hn, abs_le.2 ⟨?_, ?_⟩⟩
    · rw [geB_iff hn n025.1, n025.2] at h2; exact h2
    · rw [leB_iff hn c025.1, c025.2] at h1; exact h1
  · rintro ⟨hn, h⟩
    rw [leB_iff hn c025.1, c025.2, geB_iff hn n025.1, n025.2]
    exact ⟨(abs_le.1 h).2, (abs_le.1 h).1⟩

/-- Nearest's first test. -/
def inB (x : Nat) : Bool := ltB x 4841369599423283200 && gtB x 14064741636278059008
theorem inB_iff (x : Nat) : inB x = true ↔ Num x ∧ V x < p2 52 ∧ - p2 52 < V x := by
  unfold inB
  rw [Bool.and_eq_true]
  constructor
  · rintro ⟨h1, h2⟩
    have hn : Num x := by
      unfold ltB at h1; unfold gtB at h2
      rw [beq_iff_eq] at h1 h2
      exact two_consts c52.1 n52.1 (.inl h1) (.inl h2)
    refine ⟨hn, ?_, ?_⟩
    · rw [ltB_iff hn c52.1, c52.2] at h1; exact h1
    · rw [gtB_iff hn n52.1, n52.2] at h2; exact h2
  · rintro ⟨hn, h1, h2⟩
    rw [ltB_iff hn c52.1, c52.2, gtB_iff hn n52.1, n52.2]
    exact ⟨h1, h2⟩

/-- int64(x), towards zero. -/
def ftoi (x : Nat) : Int := ((double.read x).toInt .zero).getD 0

theorem ftoi_spec {x : Nat} (hx : Num x) : (double.read x).toInt .zero = some (ftoi x) ∧ (V x - (ftoi x : Rat)).abs < 1 ∧ ((ftoi x : Rat)).abs ≤ (V x).abs ∧
    (0 ≤ V x → (ftoi x : Rat) ≤ V x) ∧ (V x ≤ 0 → V x ≤ (ftoi x : Rat)) ∧ (0 ≤ V x → 0 ≤ ftoi x) ∧ (V x ≤ 0 → ftoi x ≤ 0) := by
  obtain ⟨s, m, i, hr⟩ := hx
  obtain ⟨k, h1, h2, h3⟩ := toInt_num hr
  have hv : V x = sgn s * ((m : Rat) * p2 i) := by unfold V; rw [hr]; rfl
  have hf : ftoi x = if s then -(k : Int) else k := by unfold ftoi; rw [h1]; rfl
  have hk : (0 : Rat) ≤ (k : Rat) := Rat.natCast_nonneg
  have hnn : (0 : Rat) ≤ (m : Rat) * p2 i := Rat.mul_nonneg Rat.natCast_nonneg (p2_nonneg i)
  refine ⟨by rw [hf, h1], ?_⟩
  rw [hv, hf]
  generalize (m : Rat) * p2 i = v at *
  cases s
  · have e : (((if false = true then -(k : Int) else (k : Int)) : Int) : Rat) = (k : Rat) := by simp [Rat.intCast_natCast]
    rw [e, sgn_false, Rat.one_mul, Rat.abs_of_nonneg (by grind : (0 : Rat) ≤ v - k), Rat.abs_of_nonneg hk, Rat.abs_of_nonneg hnn]
    refine ⟨by grind, h2, fun _ => h2, fun _ => ?_, fun _ => ?_, fun h => ?_⟩
    · grind
    · simp
    · have : (k : Rat) ≤ 0 := by grind
      have h4 : (k : Rat) ≤ ((0 : Nat) : Rat) := this
      have := Rat.natCast_le_natCast.1 h4
      simp; omega
  · have e : (((if true = true then -(k : Int) else (k : Int)) : Int) : Rat) = - (k : Rat) := by simp [Rat.intCast_neg, Rat.intCast_natCast]
    rw [e, sgn_true, Rat.neg_mul, Rat.one_mul, Rat.abs_neg, Rat.abs_neg, Rat.abs_of_nonneg hk, Rat.abs_of_nonneg hnn]
    refine ⟨?_, h2, fun h => ?_, fun _ => by grind, fun h => ?_, fun _ => by simp⟩
    · rw [Rat.abs_of_nonpos (by grind)]; grind
    · grind
    · have : (k : Rat) ≤ 0 := by grind
      have h4 : (k : Rat) ≤ ((0 : Nat) : Rat) := this
      have := Rat.natCast_le_natCast.1 h4
      simp; omega

/-- fft.Nearest -/
def nearF (x : Nat) : Int × Bool :=
  if inB x then
    let r := ftoi x
    let d := fsub x (fint r)
    let r1 := if geB d 4602678819172646912 then r + 1 else r
    let r2 := if leB d 13826050856027422720 then r1 - 1 else r1
    (r2, quarterB (fsub x (fint r2)))
  else (0, false)

theorem natAbs_le_of_abs {n : Int} {k : Nat} (h : ((n : Rat)).abs ≤ (k : Rat)) : n.natAbs ≤ k := by
  rw [natAbs_abs] at h; exact Rat.natCast_le_natCast.1 h

theorem ftoi_small {x : Nat} (h : inB x = true) : (ftoi x).natAbs ≤ 2 ^ 52 := by
  obtain ⟨hn, h1, h2⟩ := (inB_iff x).1 h
  have := (ftoi_spec hn).2.2.1
  refine natAbs_le_of_abs (Rat.le_trans this ?_)
  rw [← p2_nat]
  exact abs_le.2 ⟨Rat.le_of_lt h2, Rat.le_of_lt h1⟩

end Go.Proofs.Ygctaf
