/-
  THE ERROR OF fftx.bluestein.
-/
import Derived.Test.YgctafChirp
import Derived.Test.YgctafCv5
import Derived.Test.YgctafBl
namespace Go.Proofs.Ygctaf
open Ieee

theorem prod_nearL {a b a' b' : Cx} {r s A B : Rat} (h1 : Len (a.sub a') r) (h2 : Len (b.sub b') s) (la : Len a A) (lb : Len b' B) : Len ((a.mul b).sub (a'.mul b')) (A * s + r * B) := by
  have x := (la.mul h2).add (h1.mul lb)
  have e : (a.mul (b.sub b')).add ((a.sub a').mul b') = (a.mul b).sub (a'.mul b') := Cx.eq (by unfold Cx.add Cx.sub Cx.mul; simp only; grind) (by unfold Cx.add Cx.sub Cx.mul; simp only; grind)
  rw [e] at x
  exact x
/-- The distance. -/
def dd (i j : Nat) : Nat := i - j + (j - i)
theorem dd_or (i j : Nat) : i = j + dd i j ∨ j = i + dd i j := by unfold dd; omega
theorem cv_zz : cv (0, 0) = .zero := Cx.eq num_zero.2 num_zero.2
theorem circ_bl {n N j : Nat} {x r : Nat → Nat × Nat} (hN : 2 * n ≤ N + 1) (hj : j < n) (br : ∀ i, i < n → Bd 1 (r i)) :
    circ N (fun i => cv (blY n x r i)) (fun i => cv (blC n N r i)) j = sumC n fun i => (cv (cmul (x i) (r i))).mul (cv (r (dd i j))).conj := by
  have hnN : n ≤ N := by omega
  unfold circ
  have := sumC_split n (fun i => (cv (blY n x r i)).mul (cv (blC n N r ((j + N - i) % N)))) (N - n)
  rw [show n + (N - n) = N from by omega] at this
  rw [this]
  have z : sumC (N - n) (fun i => (cv (blY n x r (n + i))).mul (cv (blC n N r ((j + N - (n + i)) % N)))) = .zero := by
    rw [← sumC_zero (N - n)]
    refine sumC_congr fun i _ => ?_
    have e : blY n x r (n + i) = (0, 0) := by unfold blY; rw [if_neg (by omega)]
    rw [e, cv_zz]
    exact Cx.eq (by unfold Cx.mul Cx.zero; simp only; grind) (by unfold Cx.mul Cx.zero; simp only; grind)
  rw [z]
  have az : ∀ a : Cx, a.add .zero = a := fun a => Cx.eq (by unfold Cx.add Cx.zero; simp only; grind) (by unfold Cx.add Cx.zero; simp only; grind)
  rw [az]
  refine sumC_congr fun i hi => ?_
  have e1 : blY n x r i = cmul (x i) (r i) := by unfold blY; rw [if_pos hi]
  have e2 : blC n N r ((j + N - i) % N) = cconj (r (dd i j)) := by
    unfold blC dd
    by_cases h : i ≤ j
    · have m : (j + N - i) % N = j - i := by
        rw [show j + N - i = (j - i) + N from by omega, Nat.add_mod_right]
        exact Nat.mod_eq_of_lt (by omega)
      rw [m, if_pos (by omega), show i - j + (j - i) = j - i from by omega]
    · have m : (j + N - i) % N = N - (i - j) := by
        rw [show j + N - i = N - (i - j) from by omega]
        exact Nat.mod_eq_of_lt (by omega)
      rw [m]
      by_cases g : N - (i - j) < n
      · -- only where 2n = N + 1 and the two ends meet: the distances part by n - 1
        rw [if_pos g]
        exact absurd g (by omega)
      · rw [if_neg g, if_pos (by omega), show N - (N - (i - j)) = i - j + (j - i) from by omega]
  rw [e1, e2, cv_conj (br _ (by unfold dd; omega))]

/-- The ideal chirp. -/
def rhI (n i : Nat) : Cx := rho (2 * n) (i * i % (2 * n))
theorem rhI_unit (n i : Nat) : (rhI n i).nsq = 1 := rho_unit _ _
theorem ch_near {n i : Nat} (h0 : 0 < n) (hn : n ≤ 1024) : Len ((cv (chF n i)).sub (rhI n i)) (15/2 * EE) :=
  (root_near (n := 2 * n) (by omega) (by omega) (Nat.mod_lt _ (by omega))).2
theorem ch_num (e : Rat) (h1 : e ≤ 1/1000000000000000) : 15/2 * e + 1 ≤ 1001/1000 := by grind
theorem ch_len {n i : Nat} (h0 : 0 < n) (hn : n ≤ 1024) : Len (cv (chF n i)) (1001/1000) :=
  ((ch_near h0 hn).of_sub (Len.unit (rhI_unit n i))).mono (ch_num EE EE_tiny)
theorem tt_small {L : Rat} (hL : p2 (-400) ≤ L) : 6 * TT ≤ 1/100 * (EE * L) := by
  have a : 6 * TT ≤ 1/100 * (EE * p2 (-400)) := by unfold TT EE; decide +kernel
  have b := Rat.mul_le_mul_of_nonneg_left hL (Rat.le_of_lt EE_pos)
  generalize EE * p2 (-400) = u at *
  generalize EE * L = v at *
  generalize TT = t at *
  grind
theorem y_num {e L t : Rat} (h0 : 0 ≤ e * L) (ht : 6 * t ≤ 1/100 * (e * L)) : 5/2 * (e * (L * (1001/1000))) + 6 * t + (L * (15/2 * e) + 0 * 1) ≤ 102/10 * (e * L) := by grind
theorem y_num2 {e L : Rat} (hL : 0 ≤ L) (h1 : e ≤ 1/1000000000000000) : 102/10 * (e * L) + L * 1 ≤ 1001/1000 * L := by
  have := Rat.mul_le_mul_of_nonneg_right h1 hL
  grind
theorem y_near {n i : Nat} {z : Nat × Nat} {e : Int} {L : Rat} (h0 : 0 < n) (hn : n ≤ 1024) (he0 : 0 ≤ e) (he1 : e ≤ 900) (bz : Bd e z) (hL : p2 (-400) ≤ L) (lz : Len (cv z) L) :
    Len ((cv (cmul z (chF n i))).sub ((cv z).mul (rhI n i))) (102/10 * (EE * L)) ∧ Len (cv (cmul z (chF n i))) (1001/1000 * L) := by
  have hL0 := Rat.le_trans (p2_nonneg (-400)) hL
  have m := (mul_err2 bz (chF_bd (j := i) h0 hn) (by omega) (by omega) lz (ch_len (i := i) h0 hn)).tri (prod_nearL (Len.self (cv z)) (ch_near (i := i) h0 hn) lz (Len.unit (rhI_unit n i)))
  have g := m.mono (y_num (Rat.mul_nonneg (Rat.le_of_lt EE_pos) hL0) (tt_small hL))
  exact ⟨g, (g.of_sub (lz.mul (Len.unit (rhI_unit n i)))).mono (y_num2 hL0 EE_tiny)⟩
theorem term_num {e L : Rat} (h0 : 0 ≤ e * L) : 1001/1000 * L * (15/2 * e) + 102/10 * (e * L) * 1 ≤ 18 * (e * L) := by grind
theorem conj_near {a b : Cx} {r : Rat} (h : Len (a.sub b) r) : Len (a.conj.sub b.conj) r := by
  rw [← Cx.conj_sub]; exact h.conj
theorem term_near {n i d : Nat} {z : Nat × Nat} {e : Int} {L : Rat} (h0 : 0 < n) (hn : n ≤ 1024) (he0 : 0 ≤ e) (he1 : e ≤ 900) (bz : Bd e z) (hL : p2 (-400) ≤ L) (lz : Len (cv z) L) :
    Len (((cv (cmul z (chF n i))).mul (cv (chF n d)).conj).sub (((cv z).mul (rhI n i)).mul (rhI n d).conj)) (18 * (EE * L)) := by
  have hL0 := Rat.le_trans (p2_nonneg (-400)) hL
  obtain ⟨a, b⟩ := y_near (i := i) h0 hn he0 he1 bz hL lz
  exact (prod_nearL a (conj_near (ch_near (i := d) h0 hn)) b (Len.unit (show (rhI n d).conj.nsq = 1 by rw [Cx.nsq_conj]; exact rhI_unit n d))).mono (term_num (Rat.mul_nonneg (Rat.le_of_lt EE_pos) hL0))
/-- The ideal sum ahead of the last product. -/
def blI (n : Nat) (x : Nat → Cx) (j : Nat) : Cx := sumC n fun i => ((x i).mul (rhI n i)).mul (rhI n (dd i j)).conj
/-- The exact transform of any length. -/
def anyI (n : Nat) (x : Nat → Cx) (j : Nat) : Cx := sumC n fun i => (x i).mul (rho n (i * j % n))
theorem blI_len {n : Nat} {x : Nat → Cx} {L : Rat} (lx : ∀ i, i < n → Len (x i) L) (j : Nat) : Len (blI n x j) ((n : Rat) * L) := by
  unfold blI
  refine Len.sum_const fun i hi => ?_
  have := ((lx i hi).mul (Len.unit (rhI_unit n i))).mul (Len.unit (show (rhI n (dd i j)).conj.nsq = 1 by rw [Cx.nsq_conj]; exact rhI_unit n _))
  exact this.mono (by grind)
theorem anyI_len {n : Nat} {x : Nat → Cx} {L : Rat} (lx : ∀ i, i < n → Len (x i) L) (j : Nat) : Len (anyI n x j) ((n : Rat) * L) := by
  unfold anyI
  refine Len.sum_const fun i hi => ?_
  exact ((lx i hi).mul (Len.unit (rho_unit n _))).mono (by grind)
theorem blI_any {n : Nat} {x : Nat → Cx} {L : Rat} (h0 : 0 < n) (hn : n ≤ 1024) (lx : ∀ i, i < n → Len (x i) L) (j : Nat) (hj : j < n) : Len (((blI n x j).mul (rhI n j)).sub (anyI n x j)) ((n : Rat) * (L * p2 (-80))) := by
  unfold blI anyI
  rw [mulC_sum, ← sumC_sub]
  refine Len.sum_const fun i hi => ?_
  have e : ((((x i).mul (rhI n i)).mul (rhI n (dd i j)).conj).mul (rhI n j)).sub ((x i).mul (rho n (i * j % n))) =
      (x i).mul ((((rhI n i).mul (rhI n (dd i j)).conj).mul (rhI n j)).sub (rho n (i * j % n))) := by
    rw [Cx.mul_sub]; congr 1; rw [Cx.mul_assoc, Cx.mul_assoc, Cx.mul_assoc]
  rw [e]
  exact (lx i hi).mul (chirp_id h0 hn hi hj (dd_or i j))
theorem bl_num1 {n L e p : Rat} (hL : 0 ≤ L) (hn : n ≤ 1024) (he : 0 ≤ e) (hp : 0 ≤ p) : 3/2 * p * (1001/1000 * L * (1001/1000)) + n * (18 * (e * L)) ≤ (151/100 * p + 18432 * e) * L := by
  have a := Rat.mul_le_mul_of_nonneg_right hn (show 0 ≤ 18 * (e * L) from Rat.mul_nonneg (by decide) (Rat.mul_nonneg he hL))
  have b := Rat.mul_nonneg hp hL
  grind
theorem bl_num2 {n L s : Rat} (hL : 0 ≤ L) (hn : n ≤ 1024) (hs : s ≤ 1) : s * L + n * L ≤ 1025 * L := by
  have a := Rat.mul_le_mul_of_nonneg_right hn hL
  have b := Rat.mul_le_mul_of_nonneg_right hs hL
  grind
theorem bl_num3 {n L e s t u q : Rat} (hL : 0 ≤ L) (hn : n ≤ 1024) (he : 0 ≤ e) (hu : 0 ≤ u) (ht : 6 * t ≤ 1/100 * (e * L)) (hq : 1025 * (103/10) * e + s + 1024 * u ≤ q) :
    5/2 * (e * (1025 * L * (1001/1000))) + 6 * t + (1025 * L * (15/2 * e) + s * L * 1) + n * (L * u) ≤ q * L := by
  have a := Rat.mul_le_mul_of_nonneg_right hn (show 0 ≤ L * u from Rat.mul_nonneg hL hu)
  have b := Rat.mul_le_mul_of_nonneg_right hq hL
  have c := Rat.mul_nonneg he hL
  grind
def bE : Rat := 152/100 * p2 (-27)
set_option maxHeartbeats 1000000 in
/-- The transform of any length: as far from the exact as bE of the largest input. -/
theorem bl_err {q n : Nat} {e : Int} {x : Nat → Nat × Nat} {L : Rat} (h0 : 0 < n) (hn : n ≤ 1024) (hq : q ≤ 10) (hN : 2 * n ≤ 2 ^ (q + 1) + 1) (he0 : 0 ≤ e) (he1 : e ≤ 500) (bx : ∀ i, i < n → Bd e (x i)) (hL : p2 (-400) ≤ L) (lx : ∀ i, i < n → Len (cv (x i)) L) (j : Nat) (hj : j < n) :
    Len ((cv (blF q n x (chF n) j)).sub (anyI n (fun i => cv (x i)) j)) (bE * L) := by
  have hL0 := Rat.le_trans (p2_nonneg (-400)) hL
  have br : ∀ i, i < n → Bd 1 (chF n i) := fun i _ => chF_bd h0 hn
  have hjN : j < 2 ^ (q + 1) := by omega
  have hh : (q + 1) = 0 ∨ 2 ^ (q + 1) = 2 * 2 ^ q := .inr (by rw [Nat.pow_succ, Nat.mul_comm])
  have tb := tabF_bd q hq
  have bY : ∀ i, Bd (e + 4) (blY n x (chF n) i) := blY_bd he0 (by omega) bx br
  have bC : ∀ i, i < 2 ^ (q + 1) → Bd 1 (blC n (2 ^ (q + 1)) (chF n) i) := blC_bd br
  have hB1 : ∀ i, i < 2 ^ (q + 1) → Bd (e + 70) (fwdF (q + 1) (tabF (q + 1)) (blY n x (chF n)) i) := fun i hi =>
    (fwdF_bd (by omega) (by omega) (by omega) hh tb (fun i _ => bY i) i hi).mono (by omega)
  have hB2 : ∀ i, i < 2 ^ (q + 1) → Bd 67 (fwdF (q + 1) (tabF (q + 1)) (blC n (2 ^ (q + 1)) (chF n)) i) := fun i hi =>
    (fwdF_bd (by omega) (by omega) (by omega) hh tb (fun i hi2 => bC i hi2) i hi).mono (by omega)
  have hbP : ∀ i, i < 2 ^ (q + 1) → Bd (e + 140) (blP q n x (chF n) i) := fun i hi => ((hB1 i hi).mul (hB2 i hi) (by omega) (by omega)).mono (by omega)
  have lY : ∀ i, i < 2 ^ (q + 1) → Len (cv (blY n x (chF n) i)) (1001/1000 * L) := fun i _ => by
    unfold blY
    split
    · rename_i g
      exact (y_near h0 hn he0 (by omega) (bx i g) hL (lx i g)).2
    · rw [cv_zz]
      exact Len.zero.mono (Rat.mul_nonneg (by decide +kernel) hL0)
  have lC : ∀ i, i < 2 ^ (q + 1) → Len (cv (blC n (2 ^ (q + 1)) (chF n) i)) (1001/1000) := fun i hi => by
    unfold blC
    split
    · rw [cv_conj (chF_bd (j := i) h0 hn)]; exact (ch_len h0 hn).conj
    · split
      · rw [cv_conj (chF_bd (j := 2 ^ (q + 1) - i) h0 hn)]; exact (ch_len h0 hn).conj
      · rw [cv_zz]; exact Len.zero.mono (by decide +kernel)
  have hL1 : p2 (-400) ≤ 1001/1000 * L := Rat.le_trans hL (by grind)
  have hL2 : p2 (-400) ≤ 1001/1000 := by decide +kernel
  have t1 := Tr.of (k := q + 1) (by omega) (by omega) (by omega) (by omega) (fun i _ => bY i) (Rat.le_trans (p2_le (by decide)) hL1) lY
  have t2 := Tr.of (k := q + 1) (e := 1) (by omega) (by omega) (by omega) (by omega) bC (Rat.le_trans (p2_le (by decide)) hL2) lC
  have c := conv_err (by omega) (by omega) t1 t2 (by omega) (by omega) hL1 hL2 lY lC hB1 hB2 (eW := e + 140) (by omega) (by omega) hbP j hjN
  rw [circ_bl hN hj br] at c
  have d : Len ((sumC n fun i => (cv (cmul (x i) (chF n i))).mul (cv (chF n (dd i j))).conj).sub (blI n (fun i => cv (x i)) j)) ((n : Rat) * (18 * (EE * L))) := by
    unfold blI
    rw [← sumC_sub]
    exact Len.sum_const fun i hi => term_near h0 hn he0 (by omega) (bx i hi) hL (lx i hi)
  have hn' : (n : Rat) ≤ 1024 := by
    have := Rat.natCast_le_natCast.2 hn
    exact this
  have f := (c.tri d).mono (bl_num1 hL0 hn' (Rat.le_of_lt EE_pos) (p2_nonneg (-27)))
  have lI := (f.of_sub (blI_len lx j)).mono (bl_num2 hL0 hn' (show 151/100 * p2 (-27) + 18432 * EE ≤ 1 by unfold EE; decide +kernel))
  have hI := invF_bd (by omega) (by omega) (by omega) hh tb hbP j hjN
  have m := ((mul_err2 hI (chF_bd (j := j) h0 hn) (by omega) (by omega) lI (ch_len h0 hn)).tri (prod_nearL f (ch_near (i := j) h0 hn) lI (Len.unit (rhI_unit n j)))).tri (blI_any h0 hn lx j hj)
  exact m.mono (bl_num3 hL0 hn' (Rat.le_of_lt EE_pos) (p2_nonneg (-80)) (tt_small hL) (by unfold EE bE; decide +kernel))
end Go.Proofs.Ygctaf
