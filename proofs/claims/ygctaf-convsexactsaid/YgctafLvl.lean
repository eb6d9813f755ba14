/-
  THE LEVELS: the ideal pipeline, position by position; errors of the passes of radix 4 and of the split radix, point by point.
-/
import Derived.Test.YgctafNearLaw
namespace Go.Proofs.Ygctaf
open Ieee

/-! ### The ideal pipeline at a position -/
def lv (om : Nat → Cx) (k : Nat) (x : Nat → Cx) (t i : Nat) : Cx := pip om t (2 ^ (k - t)) (part k x t (i / 2 ^ t)) (i % 2 ^ t)

theorem lv_at (om : Nat → Cx) (k : Nat) (x : Nat → Cx) (t s j : Nat) (hj : j < 2 ^ t) : lv om k x t (2 ^ t * s + j) = pip om t (2 ^ (k - t)) (part k x t s) j := by
  unfold lv
  rw [Nat.mul_add_div (Nat.two_pow_pos t), Nat.div_eq_of_lt hj, Nat.add_zero, Nat.mul_add_mod, Nat.mod_eq_of_lt hj]
theorem st_two {k t : Nat} (ht : t + 1 ≤ k) : 2 * 2 ^ (k - (t + 1)) = 2 ^ (k - t) := by rw [← Nat.pow_succ']; congr 1; omega
theorem lv_low (om : Nat → Cx) (k : Nat) (x : Nat → Cx) (t s j h : Nat) (ht : t + 1 ≤ k) (hh : h = 2 ^ t) (hj : j < h) :
    lv om k x (t + 1) (2 * h * s + j) = (lv om k x t (2 * h * s + j)).add ((om (j * 2 ^ (k - (t + 1)))).mul (lv om k x t (2 * h * s + h + j))) := by
  subst hh
  have e1 : 2 * 2 ^ t * s = 2 ^ (t + 1) * s := by rw [Nat.pow_succ, Nat.mul_comm 2]
  have e2 : 2 * 2 ^ t * s = 2 ^ t * (2 * s) := by rw [Nat.mul_comm 2 (2 ^ t), Nat.mul_assoc]
  have e3 : 2 * 2 ^ t * s + 2 ^ t + j = 2 ^ t * (2 * s + 1) + j := by rw [e2, Nat.mul_add, Nat.mul_one]
  rw [e3, lv_at om k x t (2 * s + 1) j hj]
  have a : lv om k x t (2 * 2 ^ t * s + j) = pip om t (2 ^ (k - t)) (part k x t (2 * s)) j := by rw [e2]; exact lv_at om k x t (2 * s) j hj
  rw [a, e1, lv_at om k x (t + 1) s j (by rw [Nat.pow_succ]; omega), pip_low om t _ _ j hj, part_even k x t s ht, part_odd k x t s ht, st_two ht]
theorem lv_high (om : Nat → Cx) (k : Nat) (x : Nat → Cx) (t s j h : Nat) (ht : t + 1 ≤ k) (hh : h = 2 ^ t) (hj : j < h) :
    lv om k x (t + 1) (2 * h * s + h + j) = (lv om k x t (2 * h * s + j)).sub ((om (j * 2 ^ (k - (t + 1)))).mul (lv om k x t (2 * h * s + h + j))) := by
  subst hh
  have e1 : 2 * 2 ^ t * s + 2 ^ t + j = 2 ^ (t + 1) * s + (2 ^ t + j) := by rw [Nat.pow_succ, Nat.mul_comm 2, Nat.add_assoc]
  have e2 : 2 * 2 ^ t * s = 2 ^ t * (2 * s) := by rw [Nat.mul_comm 2 (2 ^ t), Nat.mul_assoc]
  have e3 : 2 * 2 ^ t * s + 2 ^ t + j = 2 ^ t * (2 * s + 1) + j := by rw [e2, Nat.mul_add, Nat.mul_one]
  have a : lv om k x t (2 * 2 ^ t * s + j) = pip om t (2 ^ (k - t)) (part k x t (2 * s)) j := by rw [e2]; exact lv_at om k x t (2 * s) j hj
  have b : lv om k x t (2 * 2 ^ t * s + 2 ^ t + j) = pip om t (2 ^ (k - t)) (part k x t (2 * s + 1)) j := by rw [e3]; exact lv_at om k x t (2 * s + 1) j hj
  rw [a, b, e1, lv_at om k x (t + 1) s (2 ^ t + j) (by rw [Nat.pow_succ]; omega), pip_high, part_even k x t s ht, part_odd k x t s ht, st_two ht]
theorem lv_zero (om : Nat → Cx) (k : Nat) (x : Nat → Cx) (i : Nat) : lv om k x 0 i = x (revN k i) := by
  unfold lv part
  show x (revN (k - 0) (i / 2 ^ 0) + 0 * 2 ^ (k - 0)) = _
  rw [Nat.pow_zero, Nat.div_one, Nat.zero_mul, Nat.add_zero, Nat.sub_zero]
theorem lv_top (om : Nat → Cx) (k : Nat) (x : Nat → Cx) (i : Nat) (hi : i < 2 ^ k) : lv om k x k i = pip om k 1 x i := by
  unfold lv
  rw [Nat.div_eq_of_lt hi, Nat.mod_eq_of_lt hi, Nat.sub_self, part_all]
/-- A position, by the block of 2h points that holds it. -/
theorem pos_split (h i : Nat) (h0 : 0 < h) : ∃ s j, j < h ∧ (i = 2 * h * s + j ∨ i = 2 * h * s + h + j) := by
  have h1 := Nat.mod_add_div i (2 * h)
  have h2 : i % (2 * h) < 2 * h := Nat.mod_lt _ (by omega)
  by_cases hc : i % (2 * h) < h
  · exact ⟨i / (2 * h), i % (2 * h), hc, .inl (by omega)⟩
  · exact ⟨i / (2 * h), i % (2 * h) - h, by omega, .inr (by omega)⟩
theorem blk_lt {k t s h : Nat} (ht : t + 1 ≤ k) (hh : h = 2 ^ t) {r : Nat} (hr : r < 2 * h) {i : Nat} (hi : 2 * h * s + i < 2 ^ k) : 2 * h * s + r < 2 ^ k := by
  have e : 2 ^ k = 2 * h * 2 ^ (k - (t + 1)) := by rw [hh, ← Nat.pow_succ', ← Nat.pow_add]; congr 1; omega
  rw [e] at hi ⊢
  have h1 : s < 2 ^ (k - (t + 1)) := by
    by_cases hc : s < 2 ^ (k - (t + 1))
    · exact hc
    · have := Nat.mul_le_mul_left (2 * h) (show 2 ^ (k - (t + 1)) ≤ s by omega)
      omega
  have h2 := Nat.mul_le_mul_left (2 * h) (show s + 1 ≤ 2 ^ (k - (t + 1)) from h1)
  rw [Nat.mul_add, Nat.mul_one] at h2
  omega
theorem lv_len {om : Nat → Cx} {k : Nat} {x : Nat → Cx} {L : Rat} (hu : ∀ m, (om m).nsq = 1) (hx : ∀ i, i < 2 ^ k → Len (x i) L) : ∀ t, t ≤ k → ∀ i, i < 2 ^ k → Len (lv om k x t i) (p2 t * L)
  | 0, _, i, _ => by
    rw [lv_zero, show ((0 : Nat) : Int) = 0 from rfl, p2_zero, Rat.one_mul]
    exact hx _ (revN_lt k i)
  | t + 1, ht, i, hi => by
    have hp : p2 ((t + 1 : Nat) : Int) * L = p2 t * L + 1 * (p2 t * L) := by rw [show ((t + 1 : Nat) : Int) = (t : Int) + 1 from by omega, p2_succ]; grind
    obtain ⟨s, j, hj, h | h⟩ := pos_split (2 ^ t) i (Nat.two_pow_pos t)
    · subst h
      rw [lv_low om k x t s j (2 ^ t) ht rfl hj, hp]
      exact (lv_len hu hx t (by omega) _ hi).add ((Len.unit (hu _)).mul (lv_len hu hx t (by omega) _ (by rw [Nat.add_assoc]; exact blk_lt ht rfl (by omega) hi)))
    · subst h
      rw [lv_high om k x t s j (2 ^ t) ht rfl hj, hp]
      rw [Nat.add_assoc] at hi
      exact (lv_len hu hx t (by omega) _ (blk_lt ht rfl (by omega) hi)).sub ((Len.unit (hu _)).mul (lv_len hu hx t (by omega) _ (by rw [Nat.add_assoc]; exact hi)))

/-! ### Numbers near an ideal one -/
theorem EE_le : EE * 4096 ≤ 1 := EE_small
/-- v is near id, a number of length at most M: within c roundings of M. -/
structure Ap (e : Int) (v : Nat × Nat) (id : Cx) (M c : Rat) : Prop where
  bd : Bd e v
  len : Len id M
  near : Len ((cv v).sub id) (c * (EE * M))
  lo : p2 (-1015) ≤ M
  c0 : 0 ≤ c
  c1 : c ≤ 1024

theorem Ap.m0 {e : Int} {v : Nat × Nat} {id : Cx} {M c : Rat} (h : Ap e v id M c) : 0 ≤ M := h.len.1
theorem Ap.tt {e : Int} {v : Nat × Nat} {id : Cx} {M c : Rat} (h : Ap e v id M c) : 64 * TT ≤ EE * M := by
  have h1 := Rat.mul_le_mul_of_nonneg_left h.lo (Rat.le_of_lt EE_pos)
  have h2 : 64 * TT ≤ EE * p2 (-1015) := by unfold TT EE; decide +kernel
  exact Rat.le_trans h2 h1
theorem Ap.cE {e : Int} {v : Nat × Nat} {id : Cx} {M c : Rat} (h : Ap e v id M c) : c * (EE * M) ≤ M := by
  have h1 := EE_le
  have h2 : c * EE ≤ 1 := by
    have := Rat.mul_le_mul_of_nonneg_right h.c1 (Rat.le_of_lt EE_pos)
    have := EE_pos
    grind
  have := Rat.mul_le_mul_of_nonneg_right h2 h.m0
  grind
theorem Ap.len2 {e : Int} {v : Nat × Nat} {id : Cx} {M c : Rat} (h : Ap e v id M c) : Len (cv v) (2 * M) :=
  (h.near.of_sub h.len).mono (by have := h.cE; grind)
theorem Ap.mono {e e' : Int} {v : Nat × Nat} {id : Cx} {M c c' : Rat} (h : Ap e v id M c) (he : e ≤ e') (hc : c ≤ c') (h1 : c' ≤ 1024) : Ap e' v id M c' :=
  ⟨h.bd.mono he, h.len, h.near.mono (Rat.mul_le_mul_of_nonneg_right hc (Rat.mul_nonneg (Rat.le_of_lt EE_pos) h.m0)), h.lo, Rat.le_trans h.c0 hc, h1⟩
/-- Another ideal number beside it. -/
theorem Ap.other {e : Int} {v : Nat × Nat} {id id' : Cx} {M c d : Rat} (h : Ap e v id M c) (hl : Len id' M) (hd : Len (id.sub id') (d * (EE * M))) (hd0 : 0 ≤ d) (h1 : c + d ≤ 1024) : Ap e v id' M (c + d) :=
  ⟨h.bd, hl, (h.near.tri hd).mono (by grind), h.lo, by have := h.c0; grind, h1⟩

theorem len_of_sq {z : Cx} {A B : Rat} (hA : 0 ≤ A) (hB : 0 ≤ B) (h : z.nsq ≤ A * A + B * B) : Len z (A + B) :=
  ⟨by grind, by have := Rat.mul_nonneg hA hB; grind⟩
theorem mul_err_len {x w : Nat × Nat} {e f : Int} {X W : Rat} (hx : Bd e x) (hw : Bd f w) (h0 : 0 ≤ e + f) (h1 : e + f ≤ 990) (lx : Len (cv x) X) (lw : Len (cv w) W) :
    Len ((cv (cmul x w)).sub ((cv x).mul (cv w))) (9/2 * (EE * (X * W)) + 8 * TT) := by
  have m := cv_mul_err hx hw h0 h1
  have hE := Rat.le_of_lt EE_pos
  have hT := Rat.le_of_lt TT_pos
  have hXW := Rat.mul_nonneg lx.1 lw.1
  have hp := Rat.mul_nonneg hE hXW
  refine len_of_sq (by grind) (by grind) (Rat.le_trans m ?_)
  have l := (lx.mul lw).2
  rw [Cx.nsq_mul] at l
  have := Rat.mul_le_mul_of_nonneg_left l (show 0 ≤ 81/4 * (EE * EE) by have := EE2_nonneg; grind)
  grind
theorem add_err_len {x y : Nat × Nat} {e : Int} {S : Rat} (hx : Bd e x) (hy : Bd e y) (h0 : 0 ≤ e) (h1 : e ≤ 1000) (l : Len ((cv x).add (cv y)) S) :
    Len ((cv (cadd x y)).sub ((cv x).add (cv y))) (3/2 * (EE * S) + 2 * TT) := by
  have m := cv_add_err hx hy h0 h1
  have hE := Rat.le_of_lt EE_pos
  have hT := Rat.le_of_lt TT_pos
  have hp := Rat.mul_nonneg hE l.1
  refine len_of_sq (by grind) (by grind) (Rat.le_trans m ?_)
  have := Rat.mul_le_mul_of_nonneg_left l.2 (show 0 ≤ 2 * (EE * EE) by have := EE2_nonneg; grind)
  have h9 : 0 ≤ EE * S * (EE * S) := Rat.mul_nonneg hp hp
  grind
theorem sub_err_len {x y : Nat × Nat} {e : Int} {S : Rat} (hx : Bd e x) (hy : Bd e y) (h0 : 0 ≤ e) (h1 : e ≤ 1000) (l : Len ((cv x).sub (cv y)) S) :
    Len ((cv (csub x y)).sub ((cv x).sub (cv y))) (3/2 * (EE * S) + 2 * TT) := by
  have m := cv_sub_err hx hy h0 h1
  have hE := Rat.le_of_lt EE_pos
  have hT := Rat.le_of_lt TT_pos
  have hp := Rat.mul_nonneg hE l.1
  refine len_of_sq (by grind) (by grind) (Rat.le_trans m ?_)
  have := Rat.mul_le_mul_of_nonneg_left l.2 (show 0 ≤ 2 * (EE * EE) by have := EE2_nonneg; grind)
  have h9 : 0 ≤ EE * S * (EE * S) := Rat.mul_nonneg hp hp
  grind

theorem Ap.mul {e : Int} {y w : Nat × Nat} {b om : Cx} {M c : Rat} (h : Ap e y b M c) (h0 : 0 ≤ e) (h1 : e ≤ 900) (hw : Bd 1 w) (hu : om.nsq = 1) (hr : Len ((cv w).sub om) (5 * EE)) (hc : c + 23 ≤ 1024) :
    Ap (e + 4) (cmul y w) (om.mul b) M (c + 23) := by
  have hE := EE_pos
  have hE2 := EE_le
  have lw : Len (cv w) (9/8) := (hr.of_sub (Len.unit hu)).mono (by grind)
  have m := mul_err_len h.bd hw (by omega) (by omega) h.len2 lw
  have d := h.len2.mul hr
  have n := (Len.unit hu).mul h.near
  have e1 : ((cv (cmul y w)).sub ((cv y).mul (cv w))).add (((cv y).mul ((cv w).sub om)).add (om.mul ((cv y).sub b))) = (cv (cmul y w)).sub (om.mul b) :=
    Cx.eq (by unfold Cx.add Cx.sub Cx.mul; simp only; grind) (by unfold Cx.add Cx.sub Cx.mul; simp only; grind)
  have s := m.add (d.add n)
  rw [e1] at s
  have ht := h.tt
  have hm := Rat.mul_nonneg (Rat.le_of_lt hE) h.m0
  have l := (Len.unit hu).mul h.len
  rw [Rat.one_mul] at l
  refine ⟨(h.bd.mul hw (by omega) (by omega)).mono (by omega), l, s.mono ?_, h.lo, by have := h.c0; grind, hc⟩
  have a1 : EE * (2 * M * (9 / 8)) = 9/4 * (EE * M) := by grind
  have a2 : 2 * M * (5 * EE) = 10 * (EE * M) := by grind
  rw [a1, a2]
  generalize EE * M = U at *
  grind
theorem Ap.add {e : Int} {x y : Nat × Nat} {a b : Cx} {M c d q : Rat} (h : Ap e x a M c) (k : Ap e y b M d) (h0 : 0 ≤ e) (h1 : e ≤ 900) (hq : c + d + 8 ≤ 2 * q) (hq1 : q ≤ 1024) : Ap (e + 2) (cadd x y) (a.add b) (2 * M) q := by
  have r := add_err_len h.bd k.bd h0 (by omega) (h.len2.add k.len2)
  have n := h.near.add k.near
  have e1 : ((cv (cadd x y)).sub ((cv x).add (cv y))).add (((cv x).sub a).add ((cv y).sub b)) = (cv (cadd x y)).sub (a.add b) :=
    Cx.eq (by unfold Cx.add Cx.sub; simp only; grind) (by unfold Cx.add Cx.sub; simp only; grind)
  have s := r.add n
  rw [e1] at s
  have ht := h.tt
  have hm := Rat.mul_nonneg (Rat.le_of_lt EE_pos) h.m0
  have hlo := h.lo
  have c0 := h.c0
  have d0 := k.c0
  have hp := p2_pos (-1015)
  have l := h.len.add k.len
  refine ⟨h.bd.add k.bd h0 (by omega), l.mono (by grind), s.mono ?_, by grind, by grind, hq1⟩
  have a1 : EE * (2 * M + 2 * M) = 4 * (EE * M) := by grind
  have a2 : q * (EE * (2 * M)) = (2 * q) * (EE * M) := by grind
  rw [a1, a2]
  have hTT := TT_pos
  have := Rat.mul_le_mul_of_nonneg_right hq hm
  generalize EE * M = U at *
  grind
theorem Ap.sub {e : Int} {x y : Nat × Nat} {a b : Cx} {M c d q : Rat} (h : Ap e x a M c) (k : Ap e y b M d) (h0 : 0 ≤ e) (h1 : e ≤ 900) (hq : c + d + 8 ≤ 2 * q) (hq1 : q ≤ 1024) : Ap (e + 2) (csub x y) (a.sub b) (2 * M) q := by
  have r := sub_err_len h.bd k.bd h0 (by omega) (h.len2.sub k.len2)
  have n := h.near.sub k.near
  have e1 : ((cv (csub x y)).sub ((cv x).sub (cv y))).add (((cv x).sub a).sub ((cv y).sub b)) = (cv (csub x y)).sub (a.sub b) :=
    Cx.eq (by unfold Cx.add Cx.sub; simp only; grind) (by unfold Cx.add Cx.sub; simp only; grind)
  have s := r.add n
  rw [e1] at s
  have ht := h.tt
  have hm := Rat.mul_nonneg (Rat.le_of_lt EE_pos) h.m0
  have hlo := h.lo
  have c0 := h.c0
  have d0 := k.c0
  have hp := p2_pos (-1015)
  have l := h.len.sub k.len
  refine ⟨h.bd.sub k.bd h0 (by omega), l.mono (by grind), s.mono ?_, by grind, by grind, hq1⟩
  have a1 : EE * (2 * M + 2 * M) = 4 * (EE * M) := by grind
  have a2 : q * (EE * (2 * M)) = (2 * q) * (EE * M) := by grind
  rw [a1, a2]
  have hTT := TT_pos
  have := Rat.mul_le_mul_of_nonneg_right hq hm
  generalize EE * M = U at *
  grind

/-! ### The quarter turn -/
def cturn (z : Nat × Nat) : Nat × Nat := (z.2, fneg z.1)
def mI : Cx := ⟨0, -1⟩
theorem mI_unit : mI.nsq = 1 := by unfold mI Cx.nsq; simp only; grind
theorem Bd.turn {e : Int} {z : Nat × Nat} (h : Bd e z) : Bd e (cturn z) := ⟨h.im, h.re.neg⟩
theorem cv_turn {e : Int} {z : Nat × Nat} (h : Bd e z) : cv (cturn z) = mI.mul (cv z) :=
  Cx.eq (by show V z.2 = 0 * V z.1 - -1 * V z.2; grind) (by show V (fneg z.1) = 0 * V z.2 + -1 * V z.1; rw [(neg_num h.re.lt h.re.num).2]; grind)
theorem Ap.turn {e : Int} {z : Nat × Nat} {a : Cx} {M c : Rat} (h : Ap e z a M c) : Ap e (cturn z) (mI.mul a) M c := by
  refine ⟨h.bd.turn, ?_, ?_, h.lo, h.c0, h.c1⟩
  · have := (Len.unit mI_unit).mul h.len
    rw [Rat.one_mul] at this; exact this
  · rw [cv_turn h.bd, ← Cx.mul_sub]
    have := (Len.unit mI_unit).mul h.near
    rw [Rat.one_mul] at this; exact this
/-- The ideal quarter turn beside the exact one. -/
theorem Ap.quarter {e : Int} {z : Nat × Nat} {a I : Cx} {M c : Rat} (h : Ap e z a M c) (hu : I.nsq = 1) (hI : Len (I.sub mI) EE) (hc : c + 1 ≤ 1024) : Ap e (cturn z) (I.mul a) M (c + 1) := by
  refine h.turn.other ?_ ?_ (by decide) hc
  · have := (Len.unit hu).mul h.len
    rw [Rat.one_mul] at this; exact this
  · have := (hI.mul h.len).neg
    have e1 : ((I.sub mI).mul a).neg = (mI.mul a).sub (I.mul a) := Cx.eq (by unfold Cx.neg Cx.sub Cx.mul; simp only; grind) (by unfold Cx.neg Cx.sub Cx.mul; simp only; grind)
    rw [e1] at this
    exact this.mono (by grind)

/-! ### Radix 4 -/
theorem pass4_err {e : Int} {A B C D T1 T2 T3 : Nat × Nat} {a b c d w I : Cx} {M r : Rat} (h0 : 0 ≤ e) (h1 : e ≤ 800) (hr : r + 28 ≤ 1024)
    (hA : Ap e A a M r) (hB : Ap e B b M r) (hC : Ap e C c M r) (hD : Ap e D d M r) (b1 : Bd 1 T1) (b2 : Bd 1 T2) (b3 : Bd 1 T3) (hw : w.nsq = 1)
    (r1 : Len ((cv T1).sub w) (5 * EE)) (r2 : Len ((cv T2).sub (w.mul w)) (5 * EE)) (r3 : Len ((cv T3).sub (w.mul (w.mul w))) (5 * EE)) (hu : I.nsq = 1) (hI : Len (I.sub mI) EE) :
    Ap (e + 8) (cadd (cadd A (cmul B T2)) (cadd (cmul C T1) (cmul D T3))) ((a.add ((w.mul w).mul b)).add (w.mul (c.add ((w.mul w).mul d)))) (2 * (2 * M)) (r + 28) ∧
    Ap (e + 8) (cadd (csub A (cmul B T2)) (cturn (csub (cmul C T1) (cmul D T3)))) ((a.sub ((w.mul w).mul b)).add ((I.mul w).mul (c.sub ((w.mul w).mul d)))) (2 * (2 * M)) (r + 28) ∧
    Ap (e + 8) (csub (cadd A (cmul B T2)) (cadd (cmul C T1) (cmul D T3))) ((a.add ((w.mul w).mul b)).sub (w.mul (c.add ((w.mul w).mul d)))) (2 * (2 * M)) (r + 28) ∧
    Ap (e + 8) (csub (csub A (cmul B T2)) (cturn (csub (cmul C T1) (cmul D T3)))) ((a.sub ((w.mul w).mul b)).sub ((I.mul w).mul (c.sub ((w.mul w).mul d)))) (2 * (2 * M)) (r + 28) := by
  have hw2 : (w.mul w).nsq = 1 := by rw [Cx.nsq_mul, hw]; grind
  have hw3 : (w.mul (w.mul w)).nsq = 1 := by rw [Cx.nsq_mul, hw2, hw]; grind
  have r0 := hA.c0
  have mb := hB.mul h0 (by omega) b2 hw2 r2 (by grind)
  have mc := hC.mul h0 (by omega) b1 hw r1 (by grind)
  have md := hD.mul h0 (by omega) b3 hw3 r3 (by grind)
  have hA' := hA.mono (show e ≤ e + 4 by omega) Rat.le_refl hA.c1
  have u := hA'.add mb (q := r + 16) (by omega) (by omega) (by grind) (by grind)
  have v := hA'.sub mb (q := r + 16) (by omega) (by omega) (by grind) (by grind)
  have y := mc.add md (q := r + 27) (by omega) (by omega) (by grind) (by grind)
  have z0 := mc.sub md (q := r + 27) (by omega) (by omega) (by grind) (by grind)
  have ey : (w.mul c).add ((w.mul (w.mul w)).mul d) = w.mul (c.add ((w.mul w).mul d)) := by
    rw [Cx.mul_add, Cx.mul_assoc w (w.mul w) d]
  have ez : I.mul ((w.mul c).sub ((w.mul (w.mul w)).mul d)) = (I.mul w).mul (c.sub ((w.mul w).mul d)) := by
    rw [Cx.mul_assoc I w, Cx.mul_sub w, Cx.mul_assoc w (w.mul w) d]
  have z := z0.quarter hu hI (by grind)
  rw [ey] at y
  rw [ez] at z
  have i1 : e + 4 + 2 + 2 = e + 8 := by omega
  have a1 := u.add y (q := r + 28) (by omega) (by omega) (by grind) (by grind)
  have a2 := v.add z (q := r + 28) (by omega) (by omega) (by grind) (by grind)
  have a3 := u.sub y (q := r + 28) (by omega) (by omega) (by grind) (by grind)
  have a4 := v.sub z (q := r + 28) (by omega) (by omega) (by grind) (by grind)
  rw [i1] at a1 a2 a3 a4
  exact ⟨a1, a2, a3, a4⟩

/-! ### The split radix -/
theorem split_err {e : Int} {A A' C D T1 T3 : Nat × Nat} {a a' c d w I : Cx} {M r : Rat} (h0 : 0 ≤ e) (h1 : e ≤ 800) (hr : r + 20 ≤ 1000)
    (hA : Ap e A a (2 * M) r) (hA' : Ap e A' a' (2 * M) r) (hC : Ap e C c M r) (hD : Ap e D d M r) (b1 : Bd 1 T1) (b3 : Bd 1 T3) (hw : w.nsq = 1)
    (r1 : Len ((cv T1).sub w) (5 * EE)) (r3 : Len ((cv T3).sub (w.mul (w.mul w))) (5 * EE)) (hu : I.nsq = 1) (hI : Len (I.sub mI) EE) :
    Ap (e + 8) (cadd A (cadd (cmul C T1) (cmul D T3))) (a.add (w.mul (c.add ((w.mul w).mul d)))) (2 * (2 * M)) (r + 20) ∧
    Ap (e + 8) (csub A (cadd (cmul C T1) (cmul D T3))) (a.sub (w.mul (c.add ((w.mul w).mul d)))) (2 * (2 * M)) (r + 20) ∧
    Ap (e + 8) (cadd A' (cturn (csub (cmul C T1) (cmul D T3)))) (a'.add ((I.mul w).mul (c.sub ((w.mul w).mul d)))) (2 * (2 * M)) (r + 20) ∧
    Ap (e + 8) (csub A' (cturn (csub (cmul C T1) (cmul D T3)))) (a'.sub ((I.mul w).mul (c.sub ((w.mul w).mul d)))) (2 * (2 * M)) (r + 20) := by
  have hw2 : (w.mul w).nsq = 1 := by rw [Cx.nsq_mul, hw]; grind
  have hw3 : (w.mul (w.mul w)).nsq = 1 := by rw [Cx.nsq_mul, hw2, hw]; grind
  have r0 := hA.c0
  have mc := hC.mul h0 (by omega) b1 hw r1 (by grind)
  have md := hD.mul h0 (by omega) b3 hw3 r3 (by grind)
  have hA1 := hA.mono (show e ≤ e + 4 + 2 by omega) Rat.le_refl hA.c1
  have hA2 := hA'.mono (show e ≤ e + 4 + 2 by omega) Rat.le_refl hA'.c1
  have y := mc.add md (q := r + 27) (by omega) (by omega) (by grind) (by grind)
  have z0 := mc.sub md (q := r + 27) (by omega) (by omega) (by grind) (by grind)
  have ey : (w.mul c).add ((w.mul (w.mul w)).mul d) = w.mul (c.add ((w.mul w).mul d)) := by
    rw [Cx.mul_add, Cx.mul_assoc w (w.mul w) d]
  have ez : I.mul ((w.mul c).sub ((w.mul (w.mul w)).mul d)) = (I.mul w).mul (c.sub ((w.mul w).mul d)) := by
    rw [Cx.mul_assoc I w, Cx.mul_sub w, Cx.mul_assoc w (w.mul w) d]
  have z := z0.quarter hu hI (by grind)
  rw [ey] at y
  rw [ez] at z
  have i1 : e + 4 + 2 + 2 = e + 8 := by omega
  have a1 := hA1.add y (q := r + 20) (by omega) (by omega) (by grind) (by grind)
  have a2 := hA1.sub y (q := r + 20) (by omega) (by omega) (by grind) (by grind)
  have a3 := hA2.add z (q := r + 20) (by omega) (by omega) (by grind) (by grind)
  have a4 := hA2.sub z (q := r + 20) (by omega) (by omega) (by grind) (by grind)
  rw [i1] at a1 a2 a3 a4
  exact ⟨a1, a2, a3, a4⟩
end Go.Proofs.Ygctaf
