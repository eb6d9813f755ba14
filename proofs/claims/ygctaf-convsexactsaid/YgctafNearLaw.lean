/-
  THE PLAIN LAW OF nearDFT: what is near the true sums is near the exact sums over the table.
-/
import Derived.Test.YgctafExact2
import Derived.Test.YgctafFwd
import Derived.Test.YgctafNearestRight
namespace Go.Proofs.Ygctaf
open Ieee

/-- What is added to the exact sum: minus got, times n under conj. -/
def subZ (cj : Bool) (k g : Nat) : Int := if cj then FZ (fneg g) * 2 ^ k else FZ (fneg g)
structure OffOk (B X : Int) : Prop where
  i : InAcc X
  a : InAcc (X.natAbs : Int)
  le : (X.natAbs : Int) ≤ B

theorem cv_negc {z : Nat × Nat} (h : Nm z) : cv (fneg z.1, fneg z.2) = (cv z).neg :=
  Cx.eq (neg_num h.l1 h.n1).2 (neg_num h.l2 h.n2).2
theorem cv_conjN {z : Nat × Nat} (h : Nm z) : cv (cconj z) = (cv z).conj :=
  Cx.eq rfl (neg_num h.l2 h.n2).2
theorem Bd.nm {z : Nat × Nat} {e : Int} (h : Bd e z) : Nm z := ⟨h.re.num, h.re.lt, h.im.num, h.im.lt⟩

theorem exC {f W : Nat → Nat × Nat} : ∀ n, (∀ i, i < n → Nm (f i)) → (∀ i, i < n → Nm (W i)) →
    (exR f W n : Rat) = (sumC n fun i => (cv (f i)).mul (cv (W i))).re * p2 2148 ∧ (exI f W n : Rat) = (sumC n fun i => (cv (f i)).mul (cv (W i))).im * p2 2148
  | 0, _, _ => ⟨by show ((0 : Int) : Rat) = 0 * p2 2148; rw [Rat.zero_mul]; rfl, by show ((0 : Int) : Rat) = 0 * p2 2148; rw [Rat.zero_mul]; rfl⟩
  | n + 1, hf, hW => by
    obtain ⟨i1, i2⟩ := exC n (fun i hi => hf i (by omega)) (fun i hi => hW i (by omega))
    have a := hf n (by omega)
    have b := hW n (by omega)
    have nn := neg_num a.l2 a.n2
    have p1 := PZ_val a.l1 a.n1 b.l1 b.n1
    have p3 := PZ_val (neg_lt a.l2) nn.1 b.l2 b.n2
    have p4 := PZ_val a.l1 a.n1 b.l2 b.n2
    have p5 := PZ_val a.l2 a.n2 b.l1 b.n1
    rw [nn.2] at p3
    rw [sumC_succ]
    constructor
    · show ((exR f W n + PZ (f n).1 (W n).1 + PZ (fneg (f n).2) (W n).2 : Int) : Rat) = ((sumC n fun i => (cv (f i)).mul (cv (W i))).re + (V (f n).1 * V (W n).1 - V (f n).2 * V (W n).2)) * p2 2148
      rw [Rat.intCast_add, Rat.intCast_add, i1, p1, p3]; grind
    · show ((exI f W n + PZ (f n).1 (W n).2 + PZ (f n).2 (W n).1 : Int) : Rat) = ((sumC n fun i => (cv (f i)).mul (cv (W i))).im + (V (f n).1 * V (W n).2 + V (f n).2 * V (W n).1)) * p2 2148
      rw [Rat.intCast_add, Rat.intCast_add, i2, p4, p5]; grind

/-! ### The whole circle's roots -/
theorem NearRoot.lenS {w om : Cx} (h : NearRoot w om) : Len (w.sub om) (4 * EE) :=
  ⟨by have := EE_pos; grind, by have := h.near; grind⟩
theorem wF_near {h : Nat} {T : Nat → Nat × Nat} {z : Cx} (hz : z.nsq = 1) (hT : ∀ i, i < h → Nm (T i)) (hr : ∀ i, i < h → NearRoot (cv (T i)) (z.pow i)) (hth : Len ((z.pow h).add .one) tH) (m : Nat) (hm : m < 2 * h) :
    Len ((cv (wF h T m)).sub (z.pow m)) (4 * EE + tH) := by
  have ht0 := hth.1
  unfold wF
  split
  · rename_i g
    exact (hr m g).lenS.mono (by grind)
  · rename_i g
    obtain ⟨i, rfl⟩ : ∃ i, m = i + h := ⟨m - h, by omega⟩
    have hi : i < h := by omega
    rw [Nat.add_sub_cancel, cv_negc (hT i hi), Cx.pow_add]
    have a := (hr i hi).lenS.neg
    have b := (Len.unit (Cx.nsq_pow hz i)).mul hth
    have c := a.sub b
    have e : ((cv (T i)).sub (z.pow i)).neg.sub ((z.pow i).mul ((z.pow h).add .one)) = (cv (T i)).neg.sub ((z.pow i).mul (z.pow h)) := by
      generalize z.pow i = p
      generalize z.pow h = q
      generalize cv (T i) = r
      exact Cx.eq (by unfold Cx.sub Cx.neg Cx.mul Cx.add Cx.one; simp only; grind) (by unfold Cx.sub Cx.neg Cx.mul Cx.add Cx.one; simp only; grind)
    rw [e] at c
    exact c.mono (by grind)
/-- The powers come round. -/
theorem pow_round {z : Cx} (hz : z.nsq = 1) {h : Nat} (hth : Len ((z.pow h).add .one) tH) (m : Nat) : Len ((z.pow (m % (2 * h))).sub (z.pow m)) ((2 * (m / (2 * h)) : Nat) * tH) := by
  have e : z.pow m = (z.pow (m % (2 * h))).mul ((z.pow h).pow (2 * (m / (2 * h)))) := by
    rw [← Cx.pow_mul, ← Cx.pow_add]
    congr 1
    have := Nat.mod_add_div m (2 * h)
    rw [← Nat.mul_assoc, Nat.mul_comm h 2]; omega
  have a := pow_sgn (Cx.nsq_pow hz h) hth (2 * (m / (2 * h)))
  rw [show sgnC (2 * (m / (2 * h))) = .one from by unfold sgnC; rw [if_pos (by omega)]] at a
  have b := ((Len.unit (Cx.nsq_pow hz (m % (2 * h)))).mul a).neg
  rw [e]
  generalize z.pow (m % (2 * h)) = p at *
  generalize (z.pow h).pow (2 * (m / (2 * h))) = q at *
  have e2 : (p.mul (q.sub .one)).neg = p.sub (p.mul q) := Cx.eq (by unfold Cx.sub Cx.neg Cx.mul Cx.one; simp only; grind) (by unfold Cx.sub Cx.neg Cx.mul Cx.one; simp only; grind)
  rw [e2] at b
  exact b.mono (by grind)

def zJ (cj : Bool) (k : Nat) : Cx := if cj then (zeK k).conj else zeK k
theorem zJ_unit (cj : Bool) (k : Nat) : (zJ cj k).nsq = 1 := by
  unfold zJ; split
  · rw [Cx.nsq_conj]; exact zeK_unit k
  · exact zeK_unit k
theorem wJ_near (cj : Bool) {k h n j i : Nat} (hk1 : 1 ≤ k) (hk : k ≤ 11) (hh : h = 2 ^ (k - 1)) (hn : n = 2 * h) (hi : i < n) (hj : j < n) :
    Len ((cv (wJ cj h (tabF k) n j i)).sub ((zJ cj k).pow (i * j))) (5 * EE) := by
  have h0 : 0 < h := by rw [hh]; exact Nat.two_pow_pos _
  have hn11 : n ≤ 2048 := by
    have : h ≤ 2 ^ 10 := by rw [hh]; exact Nat.pow_le_pow_right (by decide) (by omega)
    omega
  have nT : ∀ i, i < h → Nm (tabF k i) := fun i hi => (tab_bd k (k - 1) i hk1 hk (by omega) (by rw [← hh]; exact hi)).nm
  have hr : ∀ i, i < h → NearRoot (cv (tabF k i)) ((zeK k).pow i) := fun i hi => tab_near k i hk1 hk (by rw [← hh]; exact hi)
  have hth := zeK_half k hk1 hk
  rw [← hh] at hth
  have hm : i * j % n < 2 * h := by rw [hn]; exact Nat.mod_lt _ (by omega)
  have a := wF_near (zeK_unit k) nT hr hth (i * j % n) hm
  have b := pow_round (zeK_unit k) hth (i * j)
  rw [← hn] at b
  have c := a.tri b
  have hq : i * j / n ≤ 2048 := by
    have h1 : i * j ≤ n * n := Nat.mul_le_mul (by omega) (by omega)
    have h2 : i * j / n ≤ n * n / n := Nat.div_le_div_right h1
    rw [Nat.mul_div_cancel n (show 0 < n by omega)] at h2
    omega
  have hd : 4 * EE + tH + ((2 * (i * j / n) : Nat) : Rat) * tH ≤ 5 * EE := by
    have q1 : ((2 * (i * j / n) : Nat) : Rat) ≤ ((4096 : Nat) : Rat) := Rat.natCast_le_natCast.2 (by omega)
    have q2 := Rat.mul_le_mul_of_nonneg_right q1 hth.1
    have q3 : tH + ((4096 : Nat) : Rat) * tH ≤ EE := by unfold tH EE; decide +kernel
    grind
  have d := c.mono hd
  have nw := wF_nm nT hm
  unfold wJ zJ
  cases cj
  · exact d
  · have d2 := d.conj
    rw [Cx.conj_sub, ← cv_conjN nw, Cx.conj_pow] at d2
    exact d2

theorem sum_near (cj : Bool) {k h n j : Nat} {f : Nat → Nat × Nat} {L : Rat} (hk1 : 1 ≤ k) (hk : k ≤ 11) (hh : h = 2 ^ (k - 1)) (hn : n = 2 * h) (hj : j < n) (hL : ∀ i, i < n → Len (cv (f i)) L) :
    Len ((sumC n fun i => (cv (f i)).mul (cv (wJ cj h (tabF k) n j i))).sub (dft (zJ cj k) n (fun i => cv (f i)) j)) ((n : Rat) * (L * (5 * EE))) := by
  unfold dft
  rw [← sumC_sub]
  refine Len.sum_const fun i hi => ?_
  rw [← Cx.mul_sub]
  exact (hL i hi).mul (wJ_near cj hk1 hk hh hn hi hj)

theorem inAcc_small {X : Int} (h : (X : Rat).abs ≤ p2 4000) : InAcc X ∧ InAcc (X.natAbs : Int) := by
  rw [natAbs_abs, show (4000 : Int) = ((4000 : Nat) : Int) from rfl, p2_nat] at h
  have h1 := Rat.natCast_le_natCast.1 h
  have h2a : ∀ E F : Nat, E = 4000 → F = 4351 → 2 ^ E < 2 ^ F := fun E F hE hF => Nat.pow_lt_pow_right (by decide) (by omega)
  have h2 := h2a 4000 4351 rfl rfl
  have h3 := Nat.lt_of_le_of_lt h1 h2
  have e : ((2 ^ 4351 : Nat) : Int) = (2 : Int) ^ 4351 := Int.natCast_pow 2 4351
  unfold InAcc
  rw [← e]
  generalize 2 ^ 4351 = B at *
  omega

theorem off_of {B X : Int} {u v : Rat} (hX : (X : Rat) = u * p2 2148) (hB : (B : Rat) = v * p2 2148) (h : u.abs ≤ v) (hv : v ≤ p2 100) : OffOk B X := by
  have a := abs_val hX
  have hp := p2_nonneg 2148
  have le1 := Rat.mul_le_mul_of_nonneg_right h hp
  have le2 := Rat.mul_le_mul_of_nonneg_right hv hp
  rw [← p2_add] at le2
  have s : (X : Rat).abs ≤ p2 4000 := by
    rw [hX, abs_mul, Rat.abs_of_nonneg hp]
    exact Rat.le_trans le1 (Rat.le_trans le2 (p2_le (by decide)))
  obtain ⟨i1, i2⟩ := inAcc_small s
  refine ⟨i1, i2, ?_⟩
  rw [← Rat.intCast_le_intCast, a, hB]
  exact le1
theorem subZ_val (cj : Bool) {k g : Nat} (hg : g < 2 ^ 64) (ng : Num g) : (subZ cj k g : Rat) = -((if cj then p2 k else 1) * V g) * p2 2148 := by
  have h := FZ_val (neg_lt hg) (neg_num hg ng).1
  rw [(neg_num hg ng).2] at h
  unfold subZ
  cases cj
  · show (FZ (fneg g) : Rat) = -(1 * V g) * p2 2148
    rw [h]; grind
  · show ((FZ (fneg g) * 2 ^ k : Int) : Rat) = -(p2 k * V g) * p2 2148
    rw [Rat.intCast_mul, h, p2_nat, show ((2 ^ k : Int) : Rat) = ((2 ^ k : Nat) : Rat) from by
      rw [show (2 ^ k : Int) = ((2 ^ k : Nat) : Int) from (Int.natCast_pow 2 k).symm]; rfl]
    grind

/-- The bound's value. -/
def bndV (k : Nat) (M : Rat) : Rat := M * p2 ((k : Int) - 40) + p2 (-1000)
/-- The length of the points. -/
def lenM (M : Rat) : Rat := 2 * M + p2 (-1015)

theorem near_law (cj : Bool) {k h n j : Nat} {f : Nat → Nat × Nat} {g : Nat × Nat} {M : Rat} {B : Int} (hk1 : 1 ≤ k) (hk : k ≤ 11) (hh : h = 2 ^ (k - 1)) (hn : n = 2 * h) (hj : j < n)
    (hM0 : 0 ≤ M) (hM : M ≤ p2 35) (hf : ∀ i, i < n → Nm (f i)) (hL : ∀ i, i < n → Len (cv (f i)) (lenM M)) (hg : Nm g) (hB : (B : Rat) = bndV k M * p2 2148)
    (hnear : Len ((Cx.scale (if cj then p2 k else 1) (cv g)).sub (dft (zJ cj k) n (fun i => cv (f i)) j)) (p2 (-42) * (p2 k * lenM M))) :
    OffOk B (exR f (wJ cj h (tabF k) n j) n + subZ cj k g.1) ∧ OffOk B (exI f (wJ cj h (tabF k) n j) n + subZ cj k g.2) := by
  have h0 : 0 < h := by rw [hh]; exact Nat.two_pow_pos _
  have nT : ∀ i, i < h → Nm (tabF k i) := fun i hi => (tab_bd k (k - 1) i hk1 hk (by omega) (by rw [← hh]; exact hi)).nm
  have nW : ∀ i, i < n → Nm (wJ cj h (tabF k) n j i) := fun i _ => wJ_nm nT hn h0
  obtain ⟨x1, x2⟩ := exC n hf nW
  have s := sum_near cj hk1 hk hh hn hj hL
  have hn2 : Len ((dft (zJ cj k) n (fun i => cv (f i)) j).sub (Cx.scale (if cj then p2 k else 1) (cv g))) (p2 (-42) * (p2 k * lenM M)) := ⟨hnear.1, by rw [Cx.nsq_sub_comm]; exact hnear.2⟩
  have t := s.tri hn2
  have hnp : (n : Rat) = p2 k := by
    rw [p2_nat, hn, hh, ← Nat.pow_succ']; congr 2; omega
  rw [hnp] at t
  have fin : p2 k * (lenM M * (5 * EE)) + p2 (-42) * (p2 k * lenM M) ≤ bndV k M := by
    unfold bndV lenM
    have c1 : 2 * (5 * EE + p2 (-42)) ≤ p2 (-40) := by unfold EE; decide +kernel
    have c2 : p2 k ≤ p2 11 := p2_le (by omega)
    have c3 : p2 11 * (p2 (-1015) * (5 * EE + p2 (-42))) ≤ p2 (-1000) := by unfold EE; decide +kernel
    have c4 : 0 ≤ p2 (-1015) * (5 * EE + p2 (-42)) := by unfold EE; decide +kernel
    have c5 := Rat.mul_le_mul_of_nonneg_right c2 c4
    have c6 := Rat.mul_le_mul_of_nonneg_left c1 (Rat.mul_nonneg hM0 (p2_nonneg k))
    rw [show (k : Int) - 40 = (k : Int) + -40 from by omega, p2_add]
    generalize p2 (k : Int) = P at *
    generalize p2 (-42) = a at *
    generalize p2 (-1015) = b at *
    generalize EE = e at *
    generalize p2 (-40) = c at *
    generalize p2 (-1000) = d at *
    grind
  have hv : bndV k M ≤ p2 100 := by
    unfold bndV
    have c1 : p2 ((k : Int) - 40) ≤ p2 0 := p2_le (by omega)
    rw [p2_zero] at c1
    have c2 := Rat.mul_le_mul_of_nonneg_left c1 hM0
    have c3 : p2 35 + p2 (-1000) ≤ p2 100 := by decide +kernel
    generalize p2 (-1000) = d at *
    grind
  obtain ⟨t1, t2⟩ := t.parts
  generalize (sumC n fun i => (cv (f i)).mul (cv (wJ cj h (tabF k) n j i))) = S at *
  constructor
  · refine off_of (u := (S.sub (Cx.scale (if cj then p2 k else 1) (cv g))).re) ?_ hB (Rat.le_trans t1 fin) hv
    rw [Rat.intCast_add, x1, subZ_val cj hg.l1 hg.n1]
    show _ = (S.re - (if cj then p2 k else 1) * V g.1) * p2 2148
    generalize (if cj = true then p2 k else 1) = c
    grind
  · refine off_of (u := (S.sub (Cx.scale (if cj then p2 k else 1) (cv g))).im) ?_ hB (Rat.le_trans t2 fin) hv
    rw [Rat.intCast_add, x2, subZ_val cj hg.l2 hg.n2]
    show _ = (S.im - (if cj then p2 k else 1) * V g.2) * p2 2148
    generalize (if cj = true then p2 k else 1) = c
    grind

/-- The points' lengths by their greatest part. -/
theorem len_of_parts {z : Nat × Nat} {M : Rat} (h1 : (V z.1).abs ≤ M) (h2 : (V z.2).abs ≤ M) : Len (cv z) (lenM M) :=
  (Len.of_parts (z := cv z) h1 h2).mono (by unfold lenM; have := p2_pos (-1015); grind)
theorem lenM_ge {M : Rat} (h : 0 ≤ M) : p2 (-1015) ≤ lenM M := by unfold lenM; grind

/-- Inverse against the sums. -/
theorem inv_near {k : Nat} {f : Nat → Nat × Nat} {M : Rat} (hk1 : 1 ≤ k) (hk : k ≤ 11) (hM0 : 0 ≤ M) (hF : ∀ i, i < 2 ^ k → Bd 35 (f i)) (hf : ∀ i, i < 2 ^ k → Len (cv (f i)) (lenM M)) (j : Nat) (hj : j < 2 ^ k) :
    Len ((Cx.scale (p2 k) (cv (invF k (tabF k) f j))).sub (dft (zeK k).conj (2 ^ k) (fun i => cv (f i)) j)) (p2 (-42) * (p2 k * lenM M)) := by
  have hL := lenM_ge hM0
  have hLp : 0 ≤ lenM M := Rat.le_trans (p2_nonneg _) hL
  have hzc : (zeK k).conj.nsq = 1 := by rw [Cx.nsq_conj]; exact zeK_unit k
  have a := fwd_right_conj hk1 hk (by decide) (by decide) hF hL hf j hj
  have hpp : p2 (-(k : Int)) * p2 k = 1 := by rw [← p2_add, Int.add_left_neg, p2_zero]
  have g1 := Len.of_sub a (dft_len hzc hf j)
  rw [← p2_nat] at g1
  have g2 := g1.scale (p2_nonneg (-(k : Int)))
  have e2 : p2 (-(k : Int)) * (p2 (-43) * (p2 k * lenM M) + p2 k * lenM M) = (p2 (-(k : Int)) * p2 k) * (p2 (-43) * lenM M + lenM M) := by grind
  rw [e2, hpp, Rat.one_mul] at g2
  have hbd : Bd (35 + 66) (fwdF k (fun i => cconj (tabF k i)) f j) :=
    fwdF_bd hk (by decide) (by decide) (h := 2 ^ (k - 1)) (.inr (by rw [← Nat.pow_succ']; congr 1; omega)) (fun i hi => Bd.conj (x := tabF k i) (tab_bd k (k - 1) i hk1 hk (by omega) hi)) hF j hj
  have q1 : p2 (-43) * lenM M + lenM M ≤ 2 * lenM M := by
    have : p2 (-43) ≤ 1 := by rw [← p2_zero]; exact p2_le (by decide)
    have := Rat.mul_le_mul_of_nonneg_right this hLp
    grind
  have g3 := (divn_err hk (by omega) (by omega) hbd hL (g2.mono q1)).scale (p2_nonneg (k : Int))
  have e1 : Cx.scale (p2 k) ((cv (cdivn (2 ^ k) (fwdF k (fun i => cconj (tabF k i)) f j))).sub (Cx.scale (p2 (-(k : Int))) (cv (fwdF k (fun i => cconj (tabF k i)) f j)))) = (Cx.scale (p2 k) (cv (invF k (tabF k) f j))).sub (cv (fwdF k (fun i => cconj (tabF k i)) f j)) := by
    show _ = (Cx.scale (p2 k) (cv (cdivn (2 ^ k) (fwdF k (fun i => cconj (tabF k i)) f j)))).sub _
    generalize cv (fwdF k (fun i => cconj (tabF k i)) f j) = x
    generalize cv (cdivn (2 ^ k) (fwdF k (fun i => cconj (tabF k i)) f j)) = y
    have hpp2 : p2 k * p2 (-(k : Int)) = 1 := by rw [Rat.mul_comm]; exact hpp
    unfold Cx.scale Cx.sub
    refine Cx.eq ?_ ?_
    · show p2 k * (y.re - p2 (-(k : Int)) * x.re) = p2 k * y.re - x.re
      rw [show ∀ a b : Rat, p2 k * (a - p2 (-(k : Int)) * b) = p2 k * a - (p2 k * p2 (-(k : Int))) * b from fun a b => by grind, hpp2, Rat.one_mul]
    · show p2 k * (y.im - p2 (-(k : Int)) * x.im) = p2 k * y.im - x.im
      rw [show ∀ a b : Rat, p2 k * (a - p2 (-(k : Int)) * b) = p2 k * a - (p2 k * p2 (-(k : Int))) * b from fun a b => by grind, hpp2, Rat.one_mul]
  rw [e1] at g3
  refine (g3.tri a).mono ?_
  have c3 : p2 (-48) + p2 (-43) ≤ p2 (-42) := by decide +kernel
  have c4 := Rat.mul_le_mul_of_nonneg_right c3 (Rat.mul_nonneg (p2_nonneg k) hLp)
  generalize p2 (k : Int) = P at *
  grind
end Go.Proofs.Ygctaf
