/-
  THE PIPELINE IS LINEAR; the roots' sums; the transform of the transform; the transform of a convolution.
-/
import Derived.Test.YgctafLen
namespace Go.Proofs.Ygctaf

theorem pip_sub (om : Nat → Cx) : ∀ (t st : Nat) (x y : Nat → Cx) (j : Nat), pip om t st (fun i => (x i).sub (y i)) j = (pip om t st x j).sub (pip om t st y j)
  | 0, _, _, _, _ => rfl
  | t + 1, st, x, y, j => by
    have h1 := pip_sub om t (2 * st) (fun i => x (2 * i)) (fun i => y (2 * i))
    have h2 := pip_sub om t (2 * st) (fun i => x (2 * i + 1)) (fun i => y (2 * i + 1))
    show (if j < 2 ^ t then _ else _) = (if j < 2 ^ t then _ else _ : Cx).sub (if j < 2 ^ t then _ else _)
    by_cases h : j < 2 ^ t
    · rw [if_pos h, if_pos h, if_pos h, h1, h2]
      generalize pip om t (2 * st) (fun i => x (2 * i)) j = a
      generalize pip om t (2 * st) (fun i => y (2 * i)) j = b
      generalize pip om t (2 * st) (fun i => x (2 * i + 1)) j = c
      generalize pip om t (2 * st) (fun i => y (2 * i + 1)) j = d
      generalize om (j * st) = w
      exact Cx.eq (by unfold Cx.add Cx.sub Cx.mul; simp only; grind) (by unfold Cx.add Cx.sub Cx.mul; simp only; grind)
    · rw [if_neg h, if_neg h, if_neg h, h1, h2]
      generalize pip om t (2 * st) (fun i => x (2 * i)) (j - 2 ^ t) = a
      generalize pip om t (2 * st) (fun i => y (2 * i)) (j - 2 ^ t) = b
      generalize pip om t (2 * st) (fun i => x (2 * i + 1)) (j - 2 ^ t) = c
      generalize pip om t (2 * st) (fun i => y (2 * i + 1)) (j - 2 ^ t) = d
      generalize om ((j - 2 ^ t) * st) = w
      exact Cx.eq (by unfold Cx.sub Cx.mul; simp only; grind) (by unfold Cx.sub Cx.mul; simp only; grind)
theorem pip_congr (om : Nat → Cx) : ∀ (t st : Nat) (x y : Nat → Cx), (∀ i, i < 2 ^ t → x i = y i) → ∀ j, pip om t st x j = pip om t st y j
  | 0, _, _, _, h, _ => h 0 (by decide)
  | t + 1, st, x, y, h, j => by
    have hpt : 2 ^ (t + 1) = 2 * 2 ^ t := by rw [Nat.pow_succ, Nat.mul_comm]
    have h1 := pip_congr om t (2 * st) (fun i => x (2 * i)) (fun i => y (2 * i)) (fun i hi => h _ (by omega))
    have h2 := pip_congr om t (2 * st) (fun i => x (2 * i + 1)) (fun i => y (2 * i + 1)) (fun i hi => h _ (by omega))
    show (if j < 2 ^ t then _ else _) = (if j < 2 ^ t then _ else _ : Cx)
    rw [h1, h2, h1, h2]

/-- The sum of the powers of a root is next to nothing. -/
theorem roots_sum {th : Rat} : ∀ (k : Nat) (z : Cx), z.nsq = 1 → Len ((z.pow (2 ^ k)).add .one) th → ∀ d, 0 < d → d < 2 ^ (k + 1) →
    Len (sumC (2 ^ (k + 1)) fun j => z.pow (d * j)) (p2 ((k + 1 : Nat) : Int) * (p2 ((k + 1 : Nat) : Int) * th))
  | k, z, hz, hth, d, hd0, hd => by
    have hth0 := hth.1
    have hpt : 2 ^ (k + 1) = 2 ^ k + 2 ^ k := by rw [Nat.pow_succ]; omega
    have hp : p2 ((k + 1 : Nat) : Int) = 2 * p2 k := by rw [show ((k + 1 : Nat) : Int) = (k : Int) + 1 from by omega, p2_succ]
    have hp0 := p2_nonneg (k : Int)
    generalize hU : z.pow (2 ^ k) = u at *
    have hu : u.nsq = 1 := by rw [← hU]; exact Cx.nsq_pow hz _
    have hfac : (sumC (2 ^ (k + 1)) fun j => z.pow (d * j)) = (Cx.one.add (u.pow d)).mul (sumC (2 ^ k) fun j => z.pow (d * j)) := by
      rw [hpt, sumC_split]
      have e : (sumC (2 ^ k) fun i => z.pow (d * (2 ^ k + i))) = (u.pow d).mul (sumC (2 ^ k) fun j => z.pow (d * j)) := by
        rw [← sumC_mul]
        refine sumC_congr fun i _ => ?_
        rw [← hU, ← Cx.pow_mul, ← Cx.pow_add, Nat.mul_add, Nat.mul_comm d (2 ^ k)]
      rw [e]
      generalize (sumC (2 ^ k) fun j => z.pow (d * j)) = s
      generalize u.pow d = v
      exact Cx.eq (by unfold Cx.add Cx.mul Cx.one; simp only; grind) (by unfold Cx.add Cx.mul Cx.one; simp only; grind)
    rw [hfac]
    rcases Nat.mod_two_eq_zero_or_one d with hev | hodd
    · cases k with
      | zero => omega
      | succ k =>
        obtain ⟨c, rfl⟩ : ∃ c, d = 2 * c := ⟨d / 2, by omega⟩
        have ih := roots_sum k (z.pow 2) (Cx.nsq_pow hz 2) (th := th) (by rw [← Cx.pow_mul, ← Nat.pow_succ', hU]; exact hth) c (by omega) (by omega)
        have e : (sumC (2 ^ (k + 1)) fun j => z.pow (2 * c * j)) = (sumC (2 ^ (k + 1)) fun j => (z.pow 2).pow (c * j)) := by
          refine sumC_congr fun i _ => ?_
          rw [← Cx.pow_mul, Nat.mul_assoc]
        rw [e]
        have h1 := ((Len.unit Cx.nsq_one).add (Len.unit (Cx.nsq_pow hu (2 * c)))).mul ih
        refine h1.mono ?_
        rw [hp]
        generalize p2 ((k + 1 : Nat) : Int) = P at *
        have : 0 ≤ P * (P * th) := Rat.mul_nonneg hp0 (Rat.mul_nonneg hp0 hth0)
        grind
    · have h1 := pow_sgn hu hth d
      have e : (u.pow d).sub (sgnC d) = Cx.one.add (u.pow d) := by
        rw [show sgnC d = Cx.one.neg from by unfold sgnC; rw [if_neg (by omega)]]
        exact Cx.eq (by unfold Cx.sub Cx.neg Cx.add Cx.one; simp only; grind) (by unfold Cx.sub Cx.neg Cx.add Cx.one; simp only; grind)
      rw [e] at h1
      have h2 := Len.sum_const (n := 2 ^ k) (f := fun j => z.pow (d * j)) (c := 1) (fun i _ => Len.unit (Cx.nsq_pow hz _))
      refine (h1.mul h2).mono ?_
      have h3 : (d : Rat) ≤ p2 ((k + 1 : Nat) : Int) := by rw [p2_nat]; exact Rat.natCast_le_natCast.2 (by omega)
      rw [← p2_nat, Rat.mul_one]
      rw [hp] at h3 ⊢
      have h4 := Rat.mul_le_mul_of_nonneg_right h3 hth0
      have h5 := Rat.mul_le_mul_of_nonneg_right h4 hp0
      have h6 : 0 ≤ p2 k * (p2 k * th) := Rat.mul_nonneg hp0 (Rat.mul_nonneg hp0 hth0)
      generalize p2 (k : Int) = P at *
      grind

theorem sumC_zero (n : Nat) : sumC n (fun _ => Cx.zero) = .zero := by
  induction n with
  | zero => rfl
  | succ n ih => rw [sumC_succ, ih, Cx.add_zero]
theorem sumC_swap (n m : Nat) (f : Nat → Nat → Cx) : sumC n (fun j => sumC m (fun i => f i j)) = sumC m (fun i => sumC n (fun j => f i j)) := by
  induction n with
  | zero => exact (sumC_zero m).symm
  | succ n ih =>
    rw [sumC_succ, ih, ← sumC_add]
    exact sumC_congr fun i _ => rfl
theorem sumC_ones (n : Nat) : sumC n (fun _ => Cx.one) = ⟨(n : Rat), 0⟩ := by
  induction n with
  | zero => rfl
  | succ n ih =>
    rw [sumC_succ, ih]
    refine Cx.eq ?_ ?_
    · show (n : Rat) + 1 = ((n + 1 : Nat) : Rat); rw [Rat.natCast_add]; rfl
    · show (0 : Rat) + 0 = 0; grind
theorem sumC_sub (n : Nat) (f g : Nat → Cx) : sumC n (fun i => (f i).sub (g i)) = (sumC n f).sub (sumC n g) := by
  induction n with
  | zero => exact Cx.eq (by show (0 : Rat) = 0 - 0; grind) (by show (0 : Rat) = 0 - 0; grind)
  | succ n ih => rw [sumC_succ, sumC_succ, sumC_succ, ih]; exact Cx.eq (by unfold Cx.add Cx.sub; simp only; grind) (by unfold Cx.add Cx.sub; simp only; grind)
/-- One term alone. -/
theorem sumC_one {n : Nat} {f : Nat → Cx} {l : Nat} (hl : l < n) (h : ∀ i, i < n → i ≠ l → f i = .zero) : sumC n f = f l := by
  induction n with
  | zero => omega
  | succ n ih =>
    rw [sumC_succ]
    by_cases e : l = n
    · subst e
      have : sumC l f = .zero := by rw [sumC_congr (g := fun _ => Cx.zero) (fun i hi => h i (by omega) (by omega)), sumC_zero]
      rw [this, Cx.zero_add]
    · rw [ih (by omega) (fun i hi hne => h i (by omega) hne), h n (by omega) (by omega), Cx.add_zero]

theorem pow_conj_mul {z : Cx} (hz : z.nsq = 1) (m : Nat) : (z.pow m).mul (z.conj.pow m) = .one := by
  rw [← Cx.conj_pow]; exact Cx.mul_conj_self (Cx.nsq_pow hz m)

/-- The transform of the transform: n times the vector, and next to nothing. -/
theorem dft_back {z : Cx} {th L : Rat} (k : Nat) (hz : z.nsq = 1) (hth : Len ((z.pow (2 ^ k)).add .one) th) (x : Nat → Cx) (hx : ∀ i, i < 2 ^ (k + 1) → Len (x i) L) (l : Nat) (hl : l < 2 ^ (k + 1)) :
    Len ((dft z.conj (2 ^ (k + 1)) (dft z (2 ^ (k + 1)) x) l).sub (Cx.scale (p2 ((k + 1 : Nat) : Int)) (x l))) (p2 ((k + 1 : Nat) : Int) * (L * (p2 ((k + 1 : Nat) : Int) * (p2 ((k + 1 : Nat) : Int) * th)))) := by
  have hL0 : 0 ≤ L := (hx 0 (Nat.two_pow_pos _)).1
  have hth0 := hth.1
  have hzc : z.conj.nsq = 1 := by rw [Cx.nsq_conj]; exact hz
  have hthc : Len ((z.conj.pow (2 ^ k)).add .one) th := by
    rw [← Cx.conj_pow]
    have e : (z.pow (2 ^ k)).conj.add .one = ((z.pow (2 ^ k)).add .one).conj := Cx.eq rfl (by unfold Cx.add Cx.conj Cx.one; simp only; grind)
    rw [e]; exact hth.conj
  generalize hn : 2 ^ (k + 1) = n at *
  have e1 : dft z.conj n (dft z n x) l = sumC n fun i => (x i).mul (sumC n fun j => (z.pow (i * j)).mul (z.conj.pow (j * l))) := by
    unfold dft
    have : (sumC n fun j => (sumC n fun i => (x i).mul (z.pow (i * j))).mul (z.conj.pow (j * l))) = (sumC n fun j => sumC n fun i => (x i).mul ((z.pow (i * j)).mul (z.conj.pow (j * l)))) := by
      refine sumC_congr fun j _ => ?_
      rw [Cx.mul_comm, ← sumC_mul]
      refine sumC_congr fun i _ => ?_
      rw [Cx.mul_comm, Cx.mul_assoc]
    rw [this, sumC_swap]
    refine sumC_congr fun i _ => ?_
    rw [sumC_mul]
  have e2 : Cx.scale (p2 ((k + 1 : Nat) : Int)) (x l) = sumC n fun i => (x i).mul (if i = l then ⟨p2 ((k + 1 : Nat) : Int), 0⟩ else .zero) := by
    rw [sumC_one hl (fun i _ hne => by rw [if_neg hne, Cx.mul_zero]), if_pos rfl]
    exact Cx.eq (by unfold Cx.scale Cx.mul; simp only; grind) (by unfold Cx.scale Cx.mul; simp only; grind)
  rw [e1, e2, ← sumC_sub]
  have hnp : (n : Rat) = p2 ((k + 1 : Nat) : Int) := by rw [p2_nat, hn]
  have := Len.sum_const (n := n) (f := fun i => ((x i).mul (sumC n fun j => (z.pow (i * j)).mul (z.conj.pow (j * l)))).sub ((x i).mul (if i = l then ⟨p2 ((k + 1 : Nat) : Int), 0⟩ else .zero))) (c := L * (p2 ((k + 1 : Nat) : Int) * (p2 ((k + 1 : Nat) : Int) * th))) (fun i hi => by
    rw [← Cx.mul_sub]
    refine (hx i hi).mul ?_
    have hP0 : 0 ≤ p2 ((k + 1 : Nat) : Int) * (p2 ((k + 1 : Nat) : Int) * th) := Rat.mul_nonneg (p2_nonneg _) (Rat.mul_nonneg (p2_nonneg _) hth0)
    rcases Nat.lt_trichotomy i l with h | h | h
    · rw [if_neg (by omega)]
      obtain ⟨d, rfl⟩ : ∃ d, l = i + d := ⟨l - i, by omega⟩
      have e3 : (sumC n fun j => (z.pow (i * j)).mul (z.conj.pow (j * (i + d)))) = sumC n fun j => z.conj.pow (d * j) := by
        refine sumC_congr fun j _ => ?_
        rw [Nat.mul_add, Cx.pow_add, ← Cx.mul_assoc, Nat.mul_comm i j, pow_conj_mul hz, Cx.one_mul, Nat.mul_comm]
      rw [e3]
      have h1 := roots_sum k z.conj hzc hthc d (by omega) (by omega)
      rw [hn] at h1
      have e4 : (sumC n fun j => z.conj.pow (d * j)).sub .zero = sumC n fun j => z.conj.pow (d * j) := Cx.eq (by unfold Cx.sub Cx.zero; simp only; grind) (by unfold Cx.sub Cx.zero; simp only; grind)
      rw [e4]; exact h1
    · subst h
      rw [if_pos rfl]
      have e3 : (sumC n fun j => (z.pow (i * j)).mul (z.conj.pow (j * i))) = ⟨(n : Rat), 0⟩ := by
        rw [← sumC_ones]
        refine sumC_congr fun j _ => ?_
        rw [Nat.mul_comm j i, pow_conj_mul hz]
      rw [e3, hnp]
      exact (Len.self _).mono hP0
    · rw [if_neg (by omega)]
      obtain ⟨d, rfl⟩ : ∃ d, i = l + d := ⟨i - l, by omega⟩
      have e3 : (sumC n fun j => (z.pow ((l + d) * j)).mul (z.conj.pow (j * l))) = sumC n fun j => z.pow (d * j) := by
        refine sumC_congr fun j _ => ?_
        rw [Nat.add_mul, Nat.add_comm, Cx.pow_add, Cx.mul_assoc, Nat.mul_comm l j, pow_conj_mul hz, Cx.mul_one]
      rw [e3]
      have h1 := roots_sum k z hz hth d (by omega) (by omega)
      rw [hn] at h1
      have e4 : (sumC n fun j => z.pow (d * j)).sub .zero = sumC n fun j => z.pow (d * j) := Cx.eq (by unfold Cx.sub Cx.zero; simp only; grind) (by unfold Cx.sub Cx.zero; simp only; grind)
      rw [e4]; exact h1)
  rw [hnp] at this
  exact this

/-! ### Convolutions -/
/-- The convolution of the first la of a with the first lb of b. -/
def convZ (a b : Nat → Int) (lb : Nat) : Nat → Nat → Int
  | 0, _ => 0
  | i + 1, m => convZ a b lb i m + if i ≤ m ∧ m - i < lb then a i * b (m - i) else 0
def rC (n : Int) : Cx := ⟨(n : Rat), 0⟩
theorem rC_add (m n : Int) : rC (m + n) = (rC m).add (rC n) := Cx.eq (by show (((m + n : Int)) : Rat) = m + n; exact Rat.intCast_add m n) (by show (0 : Rat) = 0 + 0; grind)
theorem rC_mul (m n : Int) : rC (m * n) = (rC m).mul (rC n) := Cx.eq (by show (((m * n : Int)) : Rat) = m * n - 0 * 0; rw [Rat.intCast_mul]; grind) (by show (0 : Rat) = m * 0 + 0 * n; grind)
theorem rC_zero : rC 0 = .zero := rfl

/-- A stretch of a sum. -/
theorem sumC_stretch (N s lb : Nat) (g : Nat → Cx) (h : s + lb ≤ N) : sumC N (fun m => if s ≤ m ∧ m - s < lb then g (m - s) else .zero) = sumC lb g := by
  obtain ⟨r, rfl⟩ : ∃ r, N = s + (lb + r) := ⟨N - s - lb, by omega⟩
  rw [sumC_split, sumC_split]
  have e1 : (sumC s fun m => if s ≤ m ∧ m - s < lb then g (m - s) else .zero) = .zero := by
    rw [sumC_congr (g := fun _ => Cx.zero) (fun i hi => by rw [if_neg (by omega)]), sumC_zero]
  have e2 : (sumC lb fun i => if s ≤ s + i ∧ s + i - s < lb then g (s + i - s) else .zero) = sumC lb g := by
    refine sumC_congr fun i hi => ?_
    rw [if_pos (by omega), Nat.add_sub_cancel_left]
  have e3 : (sumC r fun i => if s ≤ s + (lb + i) ∧ s + (lb + i) - s < lb then g (s + (lb + i) - s) else .zero) = .zero := by
    rw [sumC_congr (g := fun _ => Cx.zero) (fun i hi => by rw [if_neg (by omega)]), sumC_zero]
  rw [e1, e2, e3, Cx.zero_add, Cx.add_zero]

theorem conv_dft (z : Cx) (a b : Nat → Int) (lb N j : Nat) : ∀ la, la + lb ≤ N + 1 ∨ la = 0 →
    sumC N (fun m => (rC (convZ a b lb la m)).mul (z.pow (m * j))) = (sumC la fun i => (rC (a i)).mul (z.pow (i * j))).mul (sumC lb fun i => (rC (b i)).mul (z.pow (i * j)))
  | 0, _ => by
    have e : (sumC N fun m => (rC (convZ a b lb 0 m)).mul (z.pow (m * j))) = .zero := by
      rw [sumC_congr (g := fun _ => Cx.zero) (fun i _ => by show (rC 0).mul _ = _; rw [rC_zero, Cx.zero_mul]), sumC_zero]
    rw [e]; exact (Cx.zero_mul _).symm
  | la + 1, h => by
    have ih := conv_dft z a b lb N j la (by omega)
    rw [sumC_succ, Cx.add_mul, ← ih]
    have e : ((rC (a la)).mul (z.pow (la * j))).mul (sumC lb fun i => (rC (b i)).mul (z.pow (i * j))) = sumC N (fun m => if la ≤ m ∧ m - la < lb then (fun l => ((rC (a la)).mul (z.pow (la * j))).mul ((rC (b l)).mul (z.pow (l * j)))) (m - la) else .zero) := by
      have h8 := sumC_stretch N la lb (fun l => ((rC (a la)).mul (z.pow (la * j))).mul ((rC (b l)).mul (z.pow (l * j)))) (by omega)
      rw [sumC_mul] at h8
      exact h8.symm
    rw [e, ← sumC_add]
    clear e ih
    refine sumC_congr fun m _ => ?_
    show (rC (convZ a b lb la m + if la ≤ m ∧ m - la < lb then a la * b (m - la) else 0)).mul _ = _
    rw [rC_add, Cx.add_mul]
    congr 1
    by_cases hc : la ≤ m ∧ m - la < lb
    · rw [if_pos hc, if_pos hc, rC_mul]
      show _ = ((rC (a la)).mul (z.pow (la * j))).mul ((rC (b (m - la))).mul (z.pow ((m - la) * j)))
      have : z.pow (m * j) = (z.pow (la * j)).mul (z.pow ((m - la) * j)) := by
        rw [← Cx.pow_add, ← Nat.add_mul, show la + (m - la) = m from by omega]
      rw [this]
      generalize rC (a la) = p
      generalize rC (b (m - la)) = q
      generalize z.pow (la * j) = r
      generalize z.pow ((m - la) * j) = s
      exact Cx.eq (by unfold Cx.mul; simp only; grind) (by unfold Cx.mul; simp only; grind)
    · rw [if_neg hc, if_neg hc, rC_zero, Cx.zero_mul]

end Go.Proofs.Ygctaf
