/-
  LENGTHS; THE IDEAL PIPELINE AGAINST THE SUMS; the roots' sums; products.
-/
import Derived.Test.YgctafNum2
namespace Go.Proofs.Ygctaf

/-- |z| <= r -/
def Len (z : Cx) (r : Rat) : Prop := 0 ≤ r ∧ z.nsq ≤ r * r

theorem le_of_sq {x y : Rat} (hy : 0 ≤ y) (h : x * x ≤ y * y) : x ≤ y := by
  rcases Rat.le_total (a := x) (b := y) with h1 | h1
  · exact h1
  · by_cases e : x = y
    · rw [e]; exact Rat.le_refl
    · exfalso
      have hlt : y < x := by grind
      have h2 := Rat.mul_lt_mul_of_pos_right hlt (show 0 < x by grind)
      have h3 := Rat.mul_le_mul_of_nonneg_left h1 hy
      grind
theorem Len.mono {z : Cx} {r s : Rat} (h : Len z r) (hs : r ≤ s) : Len z s := by
  have h0 := h.1
  refine ⟨by grind, Rat.le_trans h.2 ?_⟩
  have a := Rat.mul_le_mul_of_nonneg_right hs h0
  have b := Rat.mul_le_mul_of_nonneg_left hs (show 0 ≤ s by grind)
  exact Rat.le_trans a b
theorem dot_le {a b : Cx} {r s : Rat} (ha : Len a r) (hb : Len b s) : a.re * b.re + a.im * b.im ≤ r * s := by
  refine le_of_sq (Rat.mul_nonneg ha.1 hb.1) ?_
  have h1 : (a.re * b.re + a.im * b.im) * (a.re * b.re + a.im * b.im) ≤ a.nsq * b.nsq := by
    have := sq_nonneg (a.re * b.im - a.im * b.re)
    unfold Cx.nsq; grind
  have h2 := Rat.mul_le_mul_of_nonneg_right ha.2 b.nsq_nonneg
  have h3 := Rat.mul_le_mul_of_nonneg_left hb.2 (show 0 ≤ r * r from sq_nonneg r)
  refine Rat.le_trans h1 (Rat.le_trans h2 (Rat.le_trans h3 ?_))
  have : r * r * (s * s) = r * s * (r * s) := by grind
  rw [this]; exact Rat.le_refl
theorem Len.add {a b : Cx} {r s : Rat} (ha : Len a r) (hb : Len b s) : Len (a.add b) (r + s) := by
  have d := dot_le ha hb
  have h1 := ha.1; have h2 := hb.1; have h3 := ha.2; have h4 := hb.2
  refine ⟨by grind, ?_⟩
  unfold Cx.nsq at h3 h4 ⊢
  unfold Cx.add; simp only
  generalize a.re = p at *
  generalize a.im = q at *
  generalize b.re = u at *
  generalize b.im = v at *
  grind
theorem Len.neg {a : Cx} {r : Rat} (ha : Len a r) : Len a.neg r := ⟨ha.1, by rw [Cx.nsq_neg]; exact ha.2⟩
theorem Len.sub {a b : Cx} {r s : Rat} (ha : Len a r) (hb : Len b s) : Len (a.sub b) (r + s) := by
  have := ha.add hb.neg
  have e : a.add b.neg = a.sub b := Cx.eq (by unfold Cx.add Cx.neg Cx.sub; simp only; grind) (by unfold Cx.add Cx.neg Cx.sub; simp only; grind)
  rw [e] at this; exact this
theorem Len.mul {a b : Cx} {r s : Rat} (ha : Len a r) (hb : Len b s) : Len (a.mul b) (r * s) := by
  refine ⟨Rat.mul_nonneg ha.1 hb.1, ?_⟩
  rw [Cx.nsq_mul]
  have h2 := Rat.mul_le_mul_of_nonneg_right ha.2 b.nsq_nonneg
  have h3 := Rat.mul_le_mul_of_nonneg_left hb.2 (show 0 ≤ r * r from sq_nonneg r)
  have : r * r * (s * s) = r * s * (r * s) := by grind
  rw [← this]
  exact Rat.le_trans h2 h3
theorem Len.unit {a : Cx} (h : a.nsq = 1) : Len a 1 := ⟨by decide, by rw [h]; grind⟩
theorem Len.zero : Len .zero 0 := ⟨Rat.le_refl, by rw [Cx.nsq_zero]; grind⟩
theorem Len.conj {a : Cx} {r : Rat} (ha : Len a r) : Len a.conj r := ⟨ha.1, by rw [Cx.nsq_conj]; exact ha.2⟩
theorem Len.sum {n : Nat} {f : Nat → Cx} {g : Nat → Rat} (h : ∀ i, i < n → Len (f i) (g i)) : Len (sumC n f) (sumR n g) := by
  induction n with
  | zero => exact Len.zero
  | succ n ih => rw [sumC_succ, sumR_succ]; exact (ih fun i hi => h i (by omega)).add (h n (by omega))
theorem Len.sum_const {n : Nat} {f : Nat → Cx} {c : Rat} (h : ∀ i, i < n → Len (f i) c) : Len (sumC n f) ((n : Rat) * c) := by
  have := Len.sum (g := fun _ => c) h
  rw [sumR_const] at this; exact this
theorem Len.parts {z : Cx} {r : Rat} (h : Len z r) : z.re.abs ≤ r ∧ z.im.abs ≤ r := by
  have h2 := h.2
  unfold Cx.nsq at h2
  have a := sq_nonneg z.re; have b := sq_nonneg z.im
  constructor
  · refine le_of_sq h.1 ?_; rw [sq_abs]; grind
  · refine le_of_sq h.1 ?_; rw [sq_abs]; grind
theorem Len.of_sub {a b : Cx} {r s : Rat} (h : Len (a.sub b) r) (hb : Len b s) : Len a (r + s) := by
  have := h.add hb
  have e : (a.sub b).add b = a := Cx.eq (by unfold Cx.add Cx.sub; simp only; grind) (by unfold Cx.add Cx.sub; simp only; grind)
  rw [e] at this; exact this
theorem Len.tri {a b c : Cx} {r s : Rat} (h1 : Len (a.sub b) r) (h2 : Len (b.sub c) s) : Len (a.sub c) (r + s) := by
  have := h1.add h2
  have e : (a.sub b).add (b.sub c) = a.sub c := Cx.eq (by unfold Cx.add Cx.sub; simp only; grind) (by unfold Cx.add Cx.sub; simp only; grind)
  rw [e] at this; exact this
theorem Len.self (a : Cx) : Len (a.sub a) 0 := ⟨Rat.le_refl, by unfold Cx.nsq Cx.sub; simp only; grind⟩

/-! ### Powers of a number near -1 -/
def sgnC (m : Nat) : Cx := if m % 2 = 0 then .one else Cx.one.neg
theorem sgnC_succ (m : Nat) : sgnC (m + 1) = (sgnC m).neg := by
  unfold sgnC
  by_cases h : m % 2 = 0
  · rw [if_neg (by omega), if_pos h]
  · rw [if_pos (by omega), if_neg h]
    exact Cx.eq (by unfold Cx.neg Cx.one; simp only; grind) (by unfold Cx.neg Cx.one; simp only; grind)
theorem sgnC_nsq (m : Nat) : (sgnC m).nsq = 1 := by unfold sgnC; split <;> simp only [Cx.nsq_neg, Cx.nsq_one]
theorem pow_sgn {u : Cx} {th : Rat} (hu : u.nsq = 1) (h : Len (u.add .one) th) : ∀ m, Len ((u.pow m).sub (sgnC m)) ((m : Rat) * th)
  | 0 => by
    have := Len.self Cx.one
    have e : ((0 : Nat) : Rat) * th = 0 := by rw [show ((0 : Nat) : Rat) = 0 from rfl]; grind
    rw [e]; exact this
  | m + 1 => by
    have ih := pow_sgn hu h m
    have h1 := (ih.mul (Len.unit hu)).add ((Len.unit (sgnC_nsq m)).mul h)
    have e : (((u.pow m).sub (sgnC m)).mul u).add ((sgnC m).mul (u.add .one)) = (u.pow (m + 1)).sub (sgnC (m + 1)) := by
      rw [sgnC_succ]
      show _ = ((u.pow m).mul u).sub (sgnC m).neg
      generalize u.pow m = p
      generalize sgnC m = s
      exact Cx.eq (by unfold Cx.add Cx.sub Cx.mul Cx.neg Cx.one; simp only; grind) (by unfold Cx.add Cx.sub Cx.mul Cx.neg Cx.one; simp only; grind)
    rw [e] at h1
    have e2 : (m : Rat) * th * 1 + 1 * th = ((m + 1 : Nat) : Rat) * th := by rw [Rat.natCast_add]; show _ = ((m : Rat) + 1) * th; grind
    rw [e2] at h1; exact h1

/-! ### The sums -/
/-- sum of y_i * z^(i j) -/
def dft (z : Cx) (n : Nat) (y : Nat → Cx) (j : Nat) : Cx := sumC n fun i => (y i).mul (z.pow (i * j))

theorem pip_dft {ze : Cx} {th L : Rat} (hz : ze.nsq = 1) (k : Nat) (hth : Len ((ze.pow (2 ^ (k - 1))).add .one) th) :
    ∀ (t st : Nat) (y : Nat → Cx), t ≤ k → st = 2 ^ (k - t) → (∀ i, i < 2 ^ t → Len (y i) L) → ∀ j, j < 2 ^ t →
      Len ((pip (fun m => ze.pow m) t st y j).sub (dft (ze.pow st) (2 ^ t) y j)) ((t : Rat) * (p2 t * (L * (p2 t * th))))
  | 0, st, y, _, _, _, j, _ => by
    have e : dft (ze.pow st) (2 ^ 0) y j = y 0 := by
      show Cx.zero.add ((y 0).mul ((ze.pow st).pow (0 * j))) = y 0
      rw [Nat.zero_mul, Cx.zero_add]; exact Cx.mul_one _
    rw [e]
    have e2 : ((0 : Nat) : Rat) * (p2 ((0 : Nat) : Int) * (L * (p2 ((0 : Nat) : Int) * th))) = 0 := by rw [show ((0 : Nat) : Rat) = 0 from rfl]; grind
    rw [e2]
    exact Len.self (y 0)
  | t + 1, st, y, ht, hst, hy, j, hj => by
    have hL0 : 0 ≤ L := (hy 0 (Nat.two_pow_pos _)).1
    have hth0 : 0 ≤ th := hth.1
    have hpt : 2 ^ (t + 1) = 2 * 2 ^ t := by rw [Nat.pow_succ, Nat.mul_comm]
    have hst2 : 2 * st = 2 ^ (k - t) := by rw [hst, ← Nat.pow_succ']; congr 1; omega
    have hH : 2 ^ t * st = 2 ^ (k - 1) := by rw [hst, ← Nat.pow_add]; congr 1; omega
    have ihE := fun j hj => pip_dft hz k hth t (2 * st) (fun i => y (2 * i)) (by omega) hst2 (fun i hi => hy _ (by omega)) j hj
    have ihO := fun j hj => pip_dft hz k hth t (2 * st) (fun i => y (2 * i + 1)) (by omega) hst2 (fun i hi => hy _ (by omega)) j hj
    have hp : p2 ((t + 1 : Nat) : Int) = 2 * p2 t := by rw [show ((t + 1 : Nat) : Int) = (t : Int) + 1 from by omega, p2_succ]
    have hp0 := p2_nonneg (t : Int)
    have hX0 : 0 ≤ p2 t * (L * (p2 t * th)) := Rat.mul_nonneg hp0 (Rat.mul_nonneg hL0 (Rat.mul_nonneg hp0 hth0))
    have htq : (0 : Rat) ≤ (t : Rat) := Rat.natCast_nonneg
    have htX : 0 ≤ (t : Rat) * (p2 t * (L * (p2 t * th))) := Rat.mul_nonneg htq hX0
    have hfin : ∀ c : Rat, c ≤ 8 * (p2 t * (L * (p2 t * th))) → (t : Rat) * (p2 t * (L * (p2 t * th))) + 1 * ((t : Rat) * (p2 t * (L * (p2 t * th)))) + c ≤ ((t + 1 : Nat) : Rat) * (p2 ((t + 1 : Nat) : Int) * (L * (p2 ((t + 1 : Nat) : Int) * th))) + 4 * (p2 t * (L * (p2 t * th))) := by
      intro c hc
      rw [hp, Rat.natCast_add]
      have e : ((t : Rat) + ((1 : Nat) : Rat)) * (2 * p2 t * (L * (2 * p2 t * th))) = 4 * ((t : Rat) * (p2 t * (L * (p2 t * th)))) + 4 * (p2 t * (L * (p2 t * th))) := by
        rw [show ((1 : Nat) : Rat) = 1 from rfl]; grind
      rw [e]; grind
    -- the sum, parted
    have hpart : ∀ j, dft (ze.pow st) (2 ^ (t + 1)) y j = (sumC (2 ^ t) fun i => (y (2 * i)).mul ((ze.pow (2 * st)).pow (i * j))).add (sumC (2 ^ t) fun i => ((ze.pow st).pow j).mul ((y (2 * i + 1)).mul ((ze.pow (2 * st)).pow (i * j)))) := by
      intro j
      unfold dft
      rw [hpt, sumC_pairs]
      congr 1
      · refine sumC_congr fun i _ => ?_
        rw [← Cx.pow_mul, ← Cx.pow_mul, show st * (2 * i * j) = 2 * st * (i * j) from by rw [Nat.mul_assoc 2 i, ← Nat.mul_assoc, Nat.mul_comm st 2]]
      · refine sumC_congr fun i _ => ?_
        rw [← Cx.pow_mul, ← Cx.pow_mul, ← Cx.pow_mul, show st * ((2 * i + 1) * j) = st * j + 2 * st * (i * j) from by rw [Nat.add_mul, Nat.one_mul, Nat.mul_add, Nat.add_comm]; congr 1; rw [Nat.mul_assoc 2 i, ← Nat.mul_assoc, Nat.mul_comm st 2], Cx.pow_add]
        generalize ze.pow (st * j) = p
        generalize ze.pow (2 * st * (i * j)) = q
        rw [← Cx.mul_assoc, Cx.mul_comm (y _) p, Cx.mul_assoc]
    rcases Nat.lt_or_ge j (2 ^ t) with hlt | hge
    · rw [pip_low _ t st y j hlt, hpart j, sumC_mul]
      have a := (ihE j hlt).add ((Len.unit (Cx.nsq_pow hz (j * st))).mul (ihO j hlt))
      have e : ((pip (fun m => ze.pow m) t (2 * st) (fun i => y (2 * i)) j).sub (dft (ze.pow (2 * st)) (2 ^ t) (fun i => y (2 * i)) j)).add ((ze.pow (j * st)).mul ((pip (fun m => ze.pow m) t (2 * st) (fun i => y (2 * i + 1)) j).sub (dft (ze.pow (2 * st)) (2 ^ t) (fun i => y (2 * i + 1)) j))) =
          ((pip (fun m => ze.pow m) t (2 * st) (fun i => y (2 * i)) j).add ((ze.pow (j * st)).mul (pip (fun m => ze.pow m) t (2 * st) (fun i => y (2 * i + 1)) j))).sub ((sumC (2 ^ t) fun i => (y (2 * i)).mul ((ze.pow (2 * st)).pow (i * j))).add (((ze.pow st).pow j).mul (sumC (2 ^ t) fun i => (y (2 * i + 1)).mul ((ze.pow (2 * st)).pow (i * j))))) := by
        rw [← Cx.pow_mul ze st j, Nat.mul_comm st j]
        show _ = (Cx.add _ (Cx.mul _ _)).sub ((dft (ze.pow (2 * st)) (2 ^ t) (fun i => y (2 * i)) j).add ((ze.pow (j * st)).mul (dft (ze.pow (2 * st)) (2 ^ t) (fun i => y (2 * i + 1)) j)))
        generalize dft (ze.pow (2 * st)) (2 ^ t) (fun i => y (2 * i)) j = d1
        generalize dft (ze.pow (2 * st)) (2 ^ t) (fun i => y (2 * i + 1)) j = d2
        generalize pip (fun m => ze.pow m) t (2 * st) (fun i => y (2 * i)) j = p1
        generalize pip (fun m => ze.pow m) t (2 * st) (fun i => y (2 * i + 1)) j = p2'
        generalize ze.pow (j * st) = w
        exact Cx.eq (by unfold Cx.add Cx.sub Cx.mul; simp only; grind) (by unfold Cx.add Cx.sub Cx.mul; simp only; grind)
      rw [e] at a
      refine a.mono ?_
      have := hfin (4 * (p2 t * (L * (p2 t * th)))) (by grind)
      grind
    · obtain ⟨i0, rfl⟩ : ∃ i0, j = 2 ^ t + i0 := ⟨j - 2 ^ t, by omega⟩
      have hi0 : i0 < 2 ^ t := by omega
      rw [pip_high, hpart (2 ^ t + i0)]
      -- the sum with the signs that are meant
      have b := (ihE i0 hi0).sub ((Len.unit (Cx.nsq_pow hz (i0 * st))).mul (ihO i0 hi0))
      generalize hU : ze.pow (2 ^ (k - 1)) = u at *
      have huu : u.nsq = 1 := by rw [← hU]; exact Cx.nsq_pow hz _
      have hps := pow_sgn huu hth
      have hm2 : ∀ i : Nat, i < 2 ^ t → (i : Rat) ≤ p2 t := fun i hi => by rw [p2_nat]; exact Rat.natCast_le_natCast.2 (by omega)
      have eE : ∀ i, (ze.pow (2 * st)).pow (i * (2 ^ t + i0)) = ((ze.pow (2 * st)).pow (i * i0)).mul (u.pow (2 * i)) := by
        intro i
        rw [← hU, ← Cx.pow_mul, ← Cx.pow_mul, ← Cx.pow_mul, ← Cx.pow_add]
        congr 1
        rw [← hH, Nat.mul_add i, Nat.mul_add (2 * st), Nat.add_comm]
        congr 1
        rw [Nat.mul_comm (2 ^ t) st, Nat.mul_assoc st, Nat.mul_comm (2 ^ t) (2 * i), Nat.mul_comm 2 st, Nat.mul_assoc st, Nat.mul_assoc 2]
      have eO : ∀ i, ((ze.pow st).pow (2 ^ t + i0)).mul ((y (2 * i + 1)).mul ((ze.pow (2 * st)).pow (i * (2 ^ t + i0)))) = ((ze.pow st).pow i0).mul (((y (2 * i + 1)).mul ((ze.pow (2 * st)).pow (i * i0))).mul (u.pow (2 * i + 1))) := by
        intro i
        have e1 : (ze.pow st).pow (2 ^ t + i0) = ((ze.pow st).pow i0).mul u := by
          rw [← hU, ← Cx.pow_mul, ← Cx.pow_mul, ← Cx.pow_add, ← hH, Nat.mul_add, Nat.mul_comm st (2 ^ t), Nat.add_comm]
        rw [eE i, e1]
        show _ = ((ze.pow st).pow i0).mul (((y (2 * i + 1)).mul ((ze.pow (2 * st)).pow (i * i0))).mul ((u.pow (2 * i)).mul u))
        generalize (ze.pow st).pow i0 = p
        generalize y (2 * i + 1) = q
        generalize (ze.pow (2 * st)).pow (i * i0) = r
        generalize u.pow (2 * i) = s
        exact Cx.eq (by unfold Cx.mul; simp only; grind) (by unfold Cx.mul; simp only; grind)
      -- differences of the two sums
      have d1 : Len ((sumC (2 ^ t) fun i => (y (2 * i)).mul ((ze.pow (2 * st)).pow (i * i0))).sub (sumC (2 ^ t) fun i => (y (2 * i)).mul ((ze.pow (2 * st)).pow (i * (2 ^ t + i0))))) (p2 t * (2 * (L * (p2 t * th)))) := by
        have h := Len.sum_const (n := 2 ^ t) (f := fun i => ((y (2 * i)).mul ((ze.pow (2 * st)).pow (i * i0))).mul ((u.pow (2 * i)).sub (sgnC (2 * i)))) (c := 2 * (L * (p2 t * th))) (fun i hi => by
          have g1 := ((hy (2 * i) (by omega)).mul (Len.unit (Cx.nsq_pow (Cx.nsq_pow hz (2 * st)) (i * i0)))).mul (hps (2 * i))
          refine g1.mono ?_
          have g2 := Rat.mul_le_mul_of_nonneg_right (hm2 i hi) hth0
          have g3 := Rat.mul_le_mul_of_nonneg_left g2 hL0
          rw [Rat.natCast_mul, show ((2 : Nat) : Rat) = 2 from rfl]; grind)
        rw [← p2_nat] at h
        have h2 := h.neg
        have e : (sumC (2 ^ t) fun i => ((y (2 * i)).mul ((ze.pow (2 * st)).pow (i * i0))).mul ((u.pow (2 * i)).sub (sgnC (2 * i)))).neg = (sumC (2 ^ t) fun i => (y (2 * i)).mul ((ze.pow (2 * st)).pow (i * i0))).sub (sumC (2 ^ t) fun i => (y (2 * i)).mul ((ze.pow (2 * st)).pow (i * (2 ^ t + i0)))) := by
          have e5 : (sumC (2 ^ t) fun i => (y (2 * i)).mul ((ze.pow (2 * st)).pow (i * (2 ^ t + i0)))) = (sumC (2 ^ t) fun i => (((y (2 * i)).mul ((ze.pow (2 * st)).pow (i * i0))).mul ((u.pow (2 * i)).sub (sgnC (2 * i)))).add ((y (2 * i)).mul ((ze.pow (2 * st)).pow (i * i0)))) := by
            refine sumC_congr fun i _ => ?_
            rw [eE i, show sgnC (2 * i) = .one from by unfold sgnC; rw [if_pos (by omega)]]
            generalize y (2 * i) = q
            generalize (ze.pow (2 * st)).pow (i * i0) = r
            generalize u.pow (2 * i) = s
            exact Cx.eq (by unfold Cx.add Cx.sub Cx.mul Cx.one; simp only; grind) (by unfold Cx.add Cx.sub Cx.mul Cx.one; simp only; grind)
          rw [e5, sumC_add]
          exact Cx.eq (by unfold Cx.add Cx.sub Cx.neg; simp only; grind) (by unfold Cx.add Cx.sub Cx.neg; simp only; grind)
        rw [e] at h2; exact h2
      have d2 : Len (((sumC (2 ^ t) fun i => ((ze.pow st).pow i0).mul ((y (2 * i + 1)).mul ((ze.pow (2 * st)).pow (i * i0)))).neg).sub (sumC (2 ^ t) fun i => ((ze.pow st).pow (2 ^ t + i0)).mul ((y (2 * i + 1)).mul ((ze.pow (2 * st)).pow (i * (2 ^ t + i0)))))) (p2 t * (2 * (L * (p2 t * th)))) := by
        have h := Len.sum_const (n := 2 ^ t) (f := fun i => ((ze.pow st).pow i0).mul (((y (2 * i + 1)).mul ((ze.pow (2 * st)).pow (i * i0))).mul ((u.pow (2 * i + 1)).sub (sgnC (2 * i + 1))))) (c := 2 * (L * (p2 t * th))) (fun i hi => by
          have g1 := (Len.unit (Cx.nsq_pow (Cx.nsq_pow hz st) i0)).mul (((hy (2 * i + 1) (by omega)).mul (Len.unit (Cx.nsq_pow (Cx.nsq_pow hz (2 * st)) (i * i0)))).mul (hps (2 * i + 1)))
          refine g1.mono ?_
          have g0 : ((2 * i + 1 : Nat) : Rat) ≤ 2 * p2 t := by rw [← hp, p2_nat]; exact Rat.natCast_le_natCast.2 (by omega)
          have g2 := Rat.mul_le_mul_of_nonneg_right g0 hth0
          have g3 := Rat.mul_le_mul_of_nonneg_left g2 hL0
          grind)
        rw [← p2_nat] at h
        have h2 := h.neg
        have e : (sumC (2 ^ t) fun i => ((ze.pow st).pow i0).mul (((y (2 * i + 1)).mul ((ze.pow (2 * st)).pow (i * i0))).mul ((u.pow (2 * i + 1)).sub (sgnC (2 * i + 1))))).neg = ((sumC (2 ^ t) fun i => ((ze.pow st).pow i0).mul ((y (2 * i + 1)).mul ((ze.pow (2 * st)).pow (i * i0)))).neg).sub (sumC (2 ^ t) fun i => ((ze.pow st).pow (2 ^ t + i0)).mul ((y (2 * i + 1)).mul ((ze.pow (2 * st)).pow (i * (2 ^ t + i0))))) := by
          have e5 : (sumC (2 ^ t) fun i => ((ze.pow st).pow i0).mul (((y (2 * i + 1)).mul ((ze.pow (2 * st)).pow (i * i0))).mul ((u.pow (2 * i + 1)).sub (sgnC (2 * i + 1))))) = (sumC (2 ^ t) fun i => (((ze.pow st).pow (2 ^ t + i0)).mul ((y (2 * i + 1)).mul ((ze.pow (2 * st)).pow (i * (2 ^ t + i0))))).add (((ze.pow st).pow i0).mul ((y (2 * i + 1)).mul ((ze.pow (2 * st)).pow (i * i0))))) := by
            refine sumC_congr fun i _ => ?_
            rw [eO i, show sgnC (2 * i + 1) = Cx.one.neg from by unfold sgnC; rw [if_neg (by omega)]]
            generalize (ze.pow st).pow i0 = p
            generalize y (2 * i + 1) = q
            generalize (ze.pow (2 * st)).pow (i * i0) = r
            generalize u.pow (2 * i + 1) = s
            exact Cx.eq (by unfold Cx.add Cx.sub Cx.mul Cx.neg Cx.one; simp only; grind) (by unfold Cx.add Cx.sub Cx.mul Cx.neg Cx.one; simp only; grind)
          rw [e5, sumC_add]
          exact Cx.eq (by unfold Cx.add Cx.sub Cx.neg; simp only; grind) (by unfold Cx.add Cx.sub Cx.neg; simp only; grind)
        rw [e] at h2; exact h2
      have all := (b.add d1).add d2
      rw [sumC_mul] at all
      have e : ((((pip (fun m => ze.pow m) t (2 * st) (fun i => y (2 * i)) i0).sub (dft (ze.pow (2 * st)) (2 ^ t) (fun i => y (2 * i)) i0)).sub ((ze.pow (i0 * st)).mul ((pip (fun m => ze.pow m) t (2 * st) (fun i => y (2 * i + 1)) i0).sub (dft (ze.pow (2 * st)) (2 ^ t) (fun i => y (2 * i + 1)) i0)))).add ((sumC (2 ^ t) fun i => (y (2 * i)).mul ((ze.pow (2 * st)).pow (i * i0))).sub (sumC (2 ^ t) fun i => (y (2 * i)).mul ((ze.pow (2 * st)).pow (i * (2 ^ t + i0)))))).add ((((ze.pow st).pow i0).mul (sumC (2 ^ t) fun i => (y (2 * i + 1)).mul ((ze.pow (2 * st)).pow (i * i0)))).neg.sub (sumC (2 ^ t) fun i => ((ze.pow st).pow (2 ^ t + i0)).mul ((y (2 * i + 1)).mul ((ze.pow (2 * st)).pow (i * (2 ^ t + i0)))))) =
          ((pip (fun m => ze.pow m) t (2 * st) (fun i => y (2 * i)) i0).sub ((ze.pow (i0 * st)).mul (pip (fun m => ze.pow m) t (2 * st) (fun i => y (2 * i + 1)) i0))).sub ((sumC (2 ^ t) fun i => (y (2 * i)).mul ((ze.pow (2 * st)).pow (i * (2 ^ t + i0)))).add (sumC (2 ^ t) fun i => ((ze.pow st).pow (2 ^ t + i0)).mul ((y (2 * i + 1)).mul ((ze.pow (2 * st)).pow (i * (2 ^ t + i0)))))) := by
        rw [← Cx.pow_mul ze st i0, Nat.mul_comm st i0]
        show (((Cx.sub _ (dft (ze.pow (2 * st)) (2 ^ t) (fun i => y (2 * i)) i0)).sub (Cx.mul _ (Cx.sub _ (dft (ze.pow (2 * st)) (2 ^ t) (fun i => y (2 * i + 1)) i0)))).add ((dft (ze.pow (2 * st)) (2 ^ t) (fun i => y (2 * i)) i0).sub _)).add (((ze.pow (i0 * st)).mul (dft (ze.pow (2 * st)) (2 ^ t) (fun i => y (2 * i + 1)) i0)).neg.sub _) = _
        generalize dft (ze.pow (2 * st)) (2 ^ t) (fun i => y (2 * i)) i0 = q1
        generalize dft (ze.pow (2 * st)) (2 ^ t) (fun i => y (2 * i + 1)) i0 = q2
        generalize pip (fun m => ze.pow m) t (2 * st) (fun i => y (2 * i)) i0 = p1
        generalize pip (fun m => ze.pow m) t (2 * st) (fun i => y (2 * i + 1)) i0 = p2'
        generalize ze.pow (i0 * st) = w
        generalize (sumC (2 ^ t) fun i => (y (2 * i)).mul ((ze.pow (2 * st)).pow (i * (2 ^ t + i0)))) = r1
        generalize (sumC (2 ^ t) fun i => ((ze.pow st).pow (2 ^ t + i0)).mul ((y (2 * i + 1)).mul ((ze.pow (2 * st)).pow (i * (2 ^ t + i0))))) = r2
        exact Cx.eq (by unfold Cx.add Cx.sub Cx.mul Cx.neg; simp only; grind) (by unfold Cx.add Cx.sub Cx.mul Cx.neg; simp only; grind)
      rw [e] at all
      refine all.mono ?_
      have := hfin (8 * (p2 t * (L * (p2 t * th)))) Rat.le_refl
      have e9 : p2 t * (2 * (L * (p2 t * th))) = 2 * (p2 t * (L * (p2 t * th))) := by grind
      rw [e9]
      generalize p2 t * (L * (p2 t * th)) = X at *
      grind

end Go.Proofs.Ygctaf
