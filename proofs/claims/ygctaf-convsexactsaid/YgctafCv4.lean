/-
  A CONVOLUTION BY TRANSFORMS: back.
-/
import Derived.Test.YgctafCv3
namespace Go.Proofs.Ygctaf
open Ieee

def kap : Rat := 11/10 * p2 (-27)
theorem pass_num {a S P X M m E2 c : Rat} (hP : 1 ≤ P) (hP2 : P ≤ 2048) (hE : 0 ≤ E2) (ha : a ≤ 131072 * E2 * (P * (S + P * m))) (hS : S ≤ 402/100 * (X * X)) (hm : P * m ≤ 1/100 * (X * X)) (hX : X = P * P * M) (hc : 131072 * E2 * (403/100) * (2048 * 2048 * 2048) ≤ c * c) : a ≤ P * (c * M) * (P * (c * M)) := by
  have h1 : S + P * m ≤ 403/100 * (X * X) := by grind
  have h2 := Rat.mul_le_mul_of_nonneg_left (Rat.mul_le_mul_of_nonneg_left h1 (show 0 ≤ P by grind)) (show 0 ≤ 131072 * E2 by grind)
  have p1 : P * P ≤ 2048 * 2048 := by
    have := Rat.mul_le_mul_of_nonneg_left hP2 (show 0 ≤ P by grind)
    grind
  have p3 : P * P * P ≤ 2048 * 2048 * 2048 := by
    have a := Rat.mul_le_mul_of_nonneg_right p1 (show 0 ≤ P by grind)
    have b := Rat.mul_le_mul_of_nonneg_left hP2 (show (0 : Rat) ≤ 2048 * 2048 by decide +kernel)
    grind
  have h3 := Rat.mul_le_mul_of_nonneg_left p3 (show 0 ≤ 131072 * E2 * (403/100) by grind)
  have h4 := Rat.mul_le_mul_of_nonneg_right (Rat.le_trans h3 hc) (show 0 ≤ P * P * (M * M) from Rat.mul_nonneg (sq_nonneg P) (sq_nonneg M))
  have e1 : 131072 * E2 * (P * (403/100 * (X * X))) = 131072 * E2 * (403/100) * (P * P * P) * (P * P * (M * M)) := by rw [hX]; grind
  have e2 : c * c * (P * P * (M * M)) = P * (c * M) * (P * (c * M)) := by grind
  rw [e1] at h2
  rw [e2] at h4
  exact Rat.le_trans ha (Rat.le_trans h2 h4)
theorem inv_pass {k : Nat} {f g : Nat → Nat × Nat} {e1 e2 eW : Int} {L Lc : Rat} (hk1 : 1 ≤ k) (hk : k ≤ 11) (tf : Tr k f L) (tg : Tr k g Lc) (he : 0 ≤ e1 + e2) (he2 : e1 + e2 ≤ 990) (hL : p2 (-400) ≤ L) (hLc : p2 (-400) ≤ Lc)
    (bf : ∀ i, i < 2 ^ k → Bd e1 (fwdF k (tabF k) f i)) (bg : ∀ i, i < 2 ^ k → Bd e2 (fwdF k (tabF k) g i)) (hw0 : 0 ≤ eW) (hw1 : eW ≤ 800) (bw : ∀ i, i < 2 ^ k → Bd eW (prW k f g i)) (l : Nat) (hl : l < 2 ^ k) :
    Len ((cv (fwdF k (fun i => cconj (tabF k i)) (prW k f g) l)).sub (pip (fun m => (zeK k).conj.pow m) k 1 (fun i => cv (prW k f g i)) l)) (p2 k * (kap * (L * Lc))) := by
  have hzc : (zeK k).conj.nsq = 1 := by rw [Cx.nsq_conj]; exact zeK_unit k
  have tb : ∀ i, i < 2 ^ (k - 1) → Bd 1 (cconj (tabF k i)) := fun i hi => Bd.conj (x := tabF k i) (tab_bd k (k - 1) i hk1 hk (by omega) hi)
  have h := fwd_s2 hk1 hk hw0 hw1 tb bw (om := fun m => (zeK k).conj.pow m) (fun m => Cx.nsq_pow hzc m) (fun j hj => tab_near_conj k j hk1 hk hj)
  have g1 := S2_ge (n := 2 ^ k) (fun j => (cv (fwdF k (fun i => cconj (tabF k i)) (prW k f g) j)).sub (pip (fun m => (zeK k).conj.pow m) k 1 (fun i => cv (prW k f g i)) j)) hl
  have s := pr_s2 hk tf tg he he2 hL hLc bf bg
  have t := sq_of (k := k) hL hLc
  have t0 := p2_nonneg (-800)
  have hM0 := Rat.le_trans t0 (tiny_of hL hLc)
  have hPn : p2 k ≤ 2048 := by
    have := p2_le (i := (k : Int)) (j := 11) (by omega)
    have e : p2 11 = 2048 := by decide +kernel
    rw [e] at this; exact this
  have hm : p2 k * MU ≤ 1/100 * (p2 k * L * (p2 k * Lc) * (p2 k * L * (p2 k * Lc))) := by
    have a := Rat.mul_le_mul_of_nonneg_right hPn (Rat.le_of_lt MU_pos)
    have b : 2048 * MU ≤ 1/100 * (p2 (-800) * p2 (-800)) := by unfold MU; decide +kernel
    have c := Rat.mul_le_mul_of_nonneg_left t t0
    have d := Rat.mul_le_mul_of_nonneg_right t (Rat.le_trans t0 t)
    generalize p2 k * L * (p2 k * Lc) = X at *
    grind
  refine ⟨Rat.mul_nonneg (p2_nonneg _) (Rat.mul_nonneg (by unfold kap; decide +kernel) hM0), Rat.le_trans g1 ?_⟩
  exact pass_num (p2_nat_ge k) hPn EE2_nonneg h s hm (by grind) (by unfold kap EE; decide +kernel)

theorem circ_len {N l : Nat} {y c : Nat → Cx} {L Lc : Rat} (hy : ∀ i, i < N → Len (y i) L) (hc : ∀ i, i < N → Len (c i) Lc) : Len (circ N y c l) ((N : Rat) * (L * Lc)) := by
  unfold circ
  exact Len.sum_const fun i hi => (hy i hi).mul (hc _ (Nat.mod_lt _ (by omega)))

theorem fin_num {P M E d t h q : Rat} (hP : 1 ≤ P) (hP2 : P ≤ 2048) (hM : 0 ≤ M) (hE0 : 0 ≤ E) (hd0 : 0 ≤ d) (ht0 : 0 ≤ t) (hh0 : 0 ≤ h)
    (hn : kap + t * (11/10) * 2048 + 26/10 * E * (2048 * 2048) + 3 * d * 2048 + 3 * h * (2048 * 2048 * 2048) + q * 2048 ≤ 3/2 * p2 (-27)) (hq0 : 0 ≤ q) :
    q * (P * M) + (kap * M + t * (11/10) * (P * M) + (26/10 * E * (P * P * M) + 3 * d * (P * M)) + 2 * h * (P * P * P * M) + h * (P * P * P * M)) ≤ 3/2 * p2 (-27) * M := by
  have p0 : 0 ≤ P := by grind
  have p1 : P * P ≤ 2048 * 2048 := by
    have := Rat.mul_le_mul_of_nonneg_left hP2 p0
    grind
  have p3 : P * P * P ≤ 2048 * 2048 * 2048 := by
    have a := Rat.mul_le_mul_of_nonneg_right p1 p0
    have b := Rat.mul_le_mul_of_nonneg_left hP2 (show (0 : Rat) ≤ 2048 * 2048 by decide +kernel)
    grind
  have a1 := Rat.mul_le_mul_of_nonneg_left hP2 (show 0 ≤ t * (11/10) by grind)
  have a2 := Rat.mul_le_mul_of_nonneg_left p1 (show 0 ≤ 26/10 * E by grind)
  have a3 := Rat.mul_le_mul_of_nonneg_left hP2 (show 0 ≤ 3 * d by grind)
  have a4 := Rat.mul_le_mul_of_nonneg_left p3 (show 0 ≤ 3 * h by grind)
  have a5 := Rat.mul_le_mul_of_nonneg_left hP2 hq0
  have s : kap + t * (11/10) * P + 26/10 * E * (P * P) + 3 * d * P + 3 * h * (P * P * P) + q * P ≤ 3/2 * p2 (-27) := by
    generalize kap = kk at *
    generalize p2 (-27) = pp at *
    grind
  have r := Rat.mul_le_mul_of_nonneg_right s hM
  generalize kap = kk at *
  generalize p2 (-27) = pp at *
  grind
end Go.Proofs.Ygctaf
