/-
  fftx.Root AS A PLAIN FUNCTION, and that it is near the ideal root.
-/
import Derived.Test.YgctafRef6
import Derived.Test.YgctafNearLaw
import Derived.Test.YgctafReal
namespace Go.Proofs.Ygctaf
open Ieee

theorem eta_step5 : Len (eta.sub .one) (4/5 * p2 (-88)) := by
  have hk : 25 * ((eA - (eDn : Int)) * (eA - (eDn : Int)) + eB * eB) ≤ 16 * ((eDn : Int) * (eDn : Int)) / 2 ^ 176 := by decide +kernel
  have hk2 : 25 * ((eA - (eDn : Int)) * (eA - (eDn : Int)) + eB * eB) * 2 ^ 176 ≤ 16 * ((eDn : Int) * (eDn : Int)) := by
    have := Int.ediv_mul_le (16 * ((eDn : Int) * (eDn : Int))) (show (2 ^ 176 : Int) ≠ 0 by decide)
    omega
  have a := Rat.intCast_le_intCast.2 hk2
  simp only [Rat.intCast_mul, Rat.intCast_add, Rat.intCast_sub] at a
  have e2 : ((eDn : Int) : Rat) = eR := rfl
  have e3 : ((2 ^ 176 : Int) : Rat) * (p2 (-88) * p2 (-88)) = 1 := by decide +kernel
  have e25 : ((25 : Int) : Rat) = 25 := rfl
  have e16 : ((16 : Int) : Rat) = 16 := rfl
  rw [e2, e25, e16] at a
  have h := eR_inv
  have hv : 0 ≤ eR⁻¹ := Rat.le_of_lt (Rat.inv_pos.2 eR_pos)
  have hp := p2_nonneg (-88)
  refine ⟨by grind, ?_⟩
  unfold eta Cx.one Cx.sub Cx.nsq
  simp only
  have hpp : 0 ≤ p2 (-88) * p2 (-88) := sq_nonneg _
  rw [show 4/5 * p2 (-88) * (4/5 * p2 (-88)) = 16/25 * (p2 (-88) * p2 (-88)) from by grind]
  generalize p2 (-88) * p2 (-88) = w at *
  generalize ((2 ^ 176 : Int) : Rat) = K at *
  generalize eR⁻¹ = v at *
  generalize eR = d at *
  generalize (eA : Rat) = A at *
  generalize (eB : Rat) = B at *
  have hvv : 0 ≤ v * v * w := Rat.mul_nonneg (sq_nonneg v) hpp
  have c := Rat.mul_le_mul_of_nonneg_right a hvv
  have f1 : 25 * ((A - d) * (A - d) + B * B) * K * (v * v * w) = 25 * ((A * v - d * v) * (A * v - d * v) * (K * w) + B * v * (B * v) * (K * w)) := by grind
  have f2 : 16 * (d * d) * (v * v * w) = 16 * ((d * v) * (d * v) * w) := by grind
  rw [f1, f2, e3, h] at c
  grind
theorem eta_pow5 (d : Nat) : Len ((eta.pow d).sub .one) ((d : Rat) * (4/5 * p2 (-88))) := pow_one_near eta_unit eta_step5 d
theorem eta_quarter {d : Nat} (h : d ≤ 2 ^ 78) : Len ((eta.pow d).sub .one) (782/1000000) := by
  refine (eta_pow5 d).mono ?_
  have q : (d : Rat) ≤ ((2 ^ 78 : Nat) : Rat) := Rat.natCast_le_natCast.2 h
  have a := Rat.mul_le_mul_of_nonneg_right q (show 0 ≤ 4/5 * p2 (-88) by have := p2_nonneg (-88); grind)
  exact Rat.le_trans a (by decide +kernel)
/-- Two powers a quarter of a step apart at most. -/
theorem eta_rel {a T : Nat} (h1 : a ≤ T + 2 ^ 78) (h2 : T ≤ a + 2 ^ 78) : ∃ v : Cx, v.nsq = 1 ∧ (eta.pow T).mul v = eta.pow a ∧ Len (v.sub .one) (782/1000000) := by
  rcases Nat.le_total T a with h | h
  · obtain ⟨d, rfl⟩ : ∃ d, a = T + d := ⟨a - T, by omega⟩
    exact ⟨eta.pow d, Cx.nsq_pow eta_unit d, (Cx.pow_add eta T d).symm, eta_quarter (by omega)⟩
  · obtain ⟨d, rfl⟩ : ∃ d, T = a + d := ⟨T - a, by omega⟩
    have u := Cx.nsq_pow eta_unit d
    refine ⟨(eta.pow d).conj, by rw [Cx.nsq_conj]; exact u, ?_, ?_⟩
    · rw [Cx.pow_add, Cx.mul_assoc, Cx.mul_conj_self u, Cx.mul_one]
    · have q := eta_quarter (d := d) (by omega)
      refine ⟨q.1, ?_⟩
      have e : ((eta.pow d).conj.sub .one).nsq = ((eta.pow d).sub .one).nsq := by unfold Cx.conj Cx.sub Cx.one Cx.nsq; simp only; grind
      rw [e]; exact q.2

/-! ### The table's circle -/
def circF (m : Nat) : Nat × Nat := wF 1024 (tabF 11) m
theorem tab11 {i : Nat} (h : i < 1024) : Bd 1 (tabF 11 i) := tab_bd 11 10 i (by decide) (by decide) (by decide) h
theorem circ_bd {m : Nat} (h : m < 2048) : Bd 1 (circF m) := by
  unfold circF wF
  split
  · exact tab11 (by omega)
  · have t := tab11 (i := m - 1024) (by omega)
    exact ⟨t.re.neg, t.im.neg⟩
theorem circ_ze {m : Nat} (h : m < 2048) : Len ((cv (circF m)).sub (ze.pow m)) (5 * EE) := by
  have hr : ∀ i, i < 1024 → NearRoot (cv (tabF 11 i)) (ze.pow i) := fun i hi => by
    have := tab_near 11 i (by decide) (by decide) hi
    rw [show (zeK 11).pow i = ze.pow i from by unfold zeK; rw [← Cx.pow_mul]; congr 1; omega] at this
    exact this
  exact (wF_near ze_unit (fun i hi => (tab11 hi).nm) hr ze_half m (by omega)).mono (by unfold tH EE; decide +kernel)
theorem circ_eta {m : Nat} (h : m < 2048) : Len ((cv (circF m)).sub (eta.pow (2 ^ 80 * m))) (6 * EE) := by
  refine ((circ_ze h).tri (eta_ze_pow m).flip).mono ?_
  have q : (m : Rat) ≤ ((2048 : Nat) : Rat) := Rat.natCast_le_natCast.2 (by omega)
  have a := Rat.mul_le_mul_of_nonneg_right q (show 0 ≤ tE from p2_nonneg _)
  have b : ((2048 : Nat) : Rat) * tE ≤ EE := by unfold tE EE; decide +kernel
  grind
/-- The next one, round the circle. -/
theorem circ_next {m : Nat} (h : m < 2048) : Bd 1 (circF ((m + 1) % 2048)) ∧ Len ((cv (circF ((m + 1) % 2048))).sub (eta.pow (2 ^ 80 * (m + 1)))) (7 * EE) := by
  have hl : (m + 1) % 2048 < 2048 := Nat.mod_lt _ (by decide)
  refine ⟨circ_bd hl, ?_⟩
  have hE := EE_pos
  rcases Nat.lt_or_ge (m + 1) 2048 with g | g
  · rw [Nat.mod_eq_of_lt g]
    exact (circ_eta g).mono (by grind)
  · have : m = 2047 := by omega
    subst this
    have c := circ_eta (m := 0) (by decide)
    rw [Nat.mul_zero] at c
    show Len ((cv (circF 0)).sub _) _
    have e : 2 ^ 80 * (2047 + 1) = 2 ^ 91 := rfl
    rw [e]
    have r := eta_round.flip
    refine (c.tri r).mono ?_
    have : tC ≤ EE := by unfold tC EE; decide +kernel
    grind

/-! ### Root -/
def rootS (n j : Nat) : Nat × Nat :=
  if 3 * n ≤ 4 * (j * 2048 % n) then circF ((j * 2048 / n + 1) % 2048)
  else if n ≤ 4 * (j * 2048 % n) then chalf (cadd (circF (j * 2048 / n)) (circF ((j * 2048 / n + 1) % 2048)))
  else circF (j * 2048 / n)
def rootF (n j : Nat) : Nat × Nat :=
  if j * 2048 % n = 0 then circF (j * 2048 / n) else refF (refF (refF (refF (refF (rootS n j) n) n) n) n) n

theorem NrSt.of {z : Nat × Nat} {T a : Nat} {k : Rat} (hb : Bd 1 z) (h : Len ((cv z).sub (eta.pow a)) k) (hk : k ≤ 13/10000000) (h1 : a ≤ T + 2 ^ 78) (h2 : T ≤ a + 2 ^ 78) : NrSt (eta.pow T) (13/10000000) (782/1000000) z := by
  obtain ⟨v, v1, v2, v3⟩ := eta_rel h1 h2
  exact ⟨hb, v, v1, by rw [v2]; exact h.mono hk, v3⟩
theorem mid_near {a : Nat} {x y : Nat × Nat} (hx : Bd 1 x) (hy : Bd 1 y) (lx : Len ((cv x).sub (eta.pow a)) (7 * EE)) (ly : Len ((cv y).sub (eta.pow (a + 2 ^ 80))) (7 * EE)) :
    Bd 1 (chalf (cadd x y)) ∧ Len ((cv (chalf (cadd x y))).sub (eta.pow (a + 2 ^ 79))) (13/10000000) := by
  have lo : p2 (-1015) ≤ (1 : Rat) := by decide +kernel
  have ax : Ap 1 x (eta.pow a) 1 7 := ⟨hx, Len.unit (Cx.nsq_pow eta_unit _), lx.mono (by grind), lo, by decide, by decide +kernel⟩
  have ay : Ap 1 y (eta.pow (a + 2 ^ 80)) 1 7 := ⟨hy, Len.unit (Cx.nsq_pow eta_unit _), ly.mono (by grind), lo, by decide, by decide +kernel⟩
  have s := ax.add (q := 11) ay (by decide) (by decide) (by decide +kernel) (by decide +kernel)
  have h := s.halved (by decide) (by decide) lo (by decide +kernel)
  obtain ⟨e, he⟩ : ∃ e, e = eta.pow (2 ^ 79) := ⟨_, rfl⟩
  have ue : e.nsq = 1 := by rw [he]; exact Cx.nsq_pow eta_unit _
  have e1 : eta.pow (a + 2 ^ 79) = (eta.pow a).mul e := by rw [Cx.pow_add, he]
  have e2 : eta.pow (a + 2 ^ 80) = ((eta.pow a).mul e).mul e := by
    rw [Cx.mul_assoc, he, ← Cx.pow_add, ← Cx.pow_add]
  have st : Len (e.sub .one) (1/640) := by
    rw [he]
    exact (eta_pow5 (2 ^ 79)).mono (by decide +kernel)
  obtain ⟨p1, p2', p3⟩ := unit_parts ue
  have hre : (e.re - 1).abs ≤ 1221/1000000000 := by
    have := st.2
    rw [p3] at this
    rw [abs_le]
    constructor
    · grind
    · grind
  have mid : Cx.scale (1/2) ((eta.pow a).add (eta.pow (a + 2 ^ 80))) = Cx.scale e.re (eta.pow (a + 2 ^ 79)) := by
    rw [e2, e1]
    unfold Cx.nsq at ue
    generalize eta.pow a = A
    refine Cx.eq ?_ ?_
    · unfold Cx.scale Cx.add Cx.mul; simp only; grind
    · unfold Cx.scale Cx.add Cx.mul; simp only; grind
  have n := h.near
  rw [mid] at n
  have d := scale_diff (a := e.re) (c := 1) hre (Len.unit (Cx.nsq_pow eta_unit (a + 2 ^ 79)))
  have e5 : Cx.scale 1 (eta.pow (a + 2 ^ 79)) = eta.pow (a + 2 ^ 79) := Cx.eq (by unfold Cx.scale; simp only; grind) (by unfold Cx.scale; simp only; grind)
  rw [e5] at d
  have f := (n.tri d).mono (s := 13/10000000) (by unfold EE; decide +kernel)
  exact ⟨h.bd.of_len ((f.of_sub (Len.unit (Cx.nsq_pow eta_unit _))).mono (by decide +kernel)), f⟩

theorem root_at {n j : Nat} (h0 : 0 < n) : j * 2 ^ 91 / n = 2 ^ 80 * (j * 2048 / n) + (j * 2048 % n) * 2 ^ 80 / n := by
  have e := Nat.mod_add_div (j * 2048) n
  have e2 : j * 2 ^ 91 = (j * 2048 % n) * 2 ^ 80 + n * (2 ^ 80 * (j * 2048 / n)) := by
    have : j * 2 ^ 91 = j * 2048 * 2 ^ 80 := by rw [Nat.mul_assoc]
    rw [this]
    generalize j * 2048 % n = r at *
    generalize j * 2048 / n = q at *
    rw [← e, Nat.add_mul, Nat.mul_assoc n q, Nat.mul_comm q]
  rw [e2, Nat.add_mul_div_left _ _ h0, Nat.add_comm]
theorem root_near {n j : Nat} (h0 : 0 < n) (hn : n ≤ 2048) (hj : j < n) : Bd 1 (rootF n j) ∧ Len ((cv (rootF n j)).sub (rho n j)) (15/2 * EE) := by
  have hE := EE_pos
  have hat : j * 2048 / n < 2048 := by rw [Nat.div_lt_iff_lt_mul h0, Nat.mul_comm]; exact Nat.mul_lt_mul_of_pos_left hj (by decide)
  have T := root_at (n := n) (j := j) h0
  have hrho : rho n j = eta.pow (2 ^ 80 * (j * 2048 / n) + (j * 2048 % n) * 2 ^ 80 / n) := by unfold rho; rw [T]
  have hpw := rho_pow h0 hn (Nat.le_of_lt hj)
  have hun := rho_unit n j
  have hrl : j * 2048 % n < n := Nat.mod_lt _ h0
  unfold rootF rootS
  clear T
  obtain ⟨r, hr⟩ : ∃ r, r = j * 2048 % n := ⟨_, rfl⟩
  obtain ⟨a, ha⟩ : ∃ a, a = j * 2048 / n := ⟨_, rfl⟩
  rw [← hr, ← ha] at hrho ⊢
  rw [← ha] at hat
  rw [← hr] at hrl
  clear hr ha
  split
  · rename_i g
    subst g
    rw [hrho, Nat.zero_mul, Nat.zero_div, Nat.add_zero]
    exact ⟨circ_bd hat, (circ_eta hat).mono (by grind)⟩
  · rename_i g
    refine refine_five h0 hn hun hpw ?_
    rw [hrho]
    obtain ⟨nb, nn⟩ := circ_next hat
    have ca := circ_eta hat
    have cb := circ_bd hat
    have up : r * 2 ^ 80 / n < 2 ^ 80 := by rw [Nat.div_lt_iff_lt_mul h0, Nat.mul_comm]; exact Nat.mul_lt_mul_of_pos_left hrl (by decide)
    have k7 : 7 * EE ≤ 13/10000000 := by unfold EE; decide +kernel
    split
    · rename_i g3
      have lo : 3 * 2 ^ 78 ≤ r * 2 ^ 80 / n := by
        rw [Nat.le_div_iff_mul_le h0]
        omega
      refine NrSt.of nb nn k7 ?_ ?_
      · omega
      · omega
    · rename_i g3
      split
      · rename_i g4
        have lo : 2 ^ 78 ≤ r * 2 ^ 80 / n := by
          rw [Nat.le_div_iff_mul_le h0]
          omega
        have hi : r * 2 ^ 80 / n < 3 * 2 ^ 78 := by
          rw [Nat.div_lt_iff_lt_mul h0]
          omega
        obtain ⟨mb, mn⟩ := mid_near cb nb (ca.mono (show 6 * EE ≤ 7 * EE by grind)) (by rw [show 2 ^ 80 * a + 2 ^ 80 = 2 ^ 80 * (a + 1) from by omega]; exact nn)
        refine NrSt.of mb mn Rat.le_refl ?_ ?_
        · omega
        · omega
      · rename_i g4
        have hi : r * 2 ^ 80 / n ≤ 2 ^ 78 := by
          refine Nat.le_of_lt ?_
          rw [Nat.div_lt_iff_lt_mul h0]
          omega
        refine NrSt.of cb (ca.mono (show 6 * EE ≤ 7 * EE by grind)) k7 ?_ ?_
        · exact Nat.le_trans (Nat.le_add_right _ _) (Nat.le_add_right _ _)
        · omega
end Go.Proofs.Ygctaf
