/-
  MEAN SQUARES: products of two vectors, summed.
-/
import Derived.Test.YgctafFwdAp
namespace Go.Proofs.Ygctaf
open Ieee

theorem amgm {a b : Cx} {t s : Rat} (ht : 0 ≤ t) (hs : 0 ≤ s) (hts : t * s = 1) : Len (a.mul b) (1/2 * (t * a.nsq + s * b.nsq)) := by
  have ha := a.nsq_nonneg
  have hb := b.nsq_nonneg
  have h1 := Rat.mul_nonneg ht ha
  have h2 := Rat.mul_nonneg hs hb
  refine ⟨by grind, ?_⟩
  rw [Cx.nsq_mul]
  have e : a.nsq * b.nsq = (t * s) * (a.nsq * b.nsq) := by rw [hts, Rat.one_mul]
  rw [e]
  have q := sq_nonneg (t * a.nsq - s * b.nsq)
  generalize a.nsq = A at *
  generalize b.nsq = B at *
  grind
theorem sumR_amgm {N : Nat} {a b : Nat → Cx} {t s A B : Rat} (ht : 0 ≤ t) (hs : 0 ≤ s) (hA : S2 N a ≤ A) (hB : S2 N b ≤ B) :
    sumR N (fun i => 1/2 * (t * (a i).nsq + s * (b i).nsq)) ≤ 1/2 * (t * A + s * B) := by
  rw [sumR_mul, sumR_add, sumR_mul, sumR_mul]
  have h1 := Rat.mul_le_mul_of_nonneg_left hA ht
  have h2 := Rat.mul_le_mul_of_nonneg_left hB hs
  show 1/2 * (t * S2 N a + s * S2 N b) ≤ _
  grind
/-- The transform of products. -/
theorem dft_prod {z : Cx} {N : Nat} {a b : Nat → Cx} {t s A B : Rat} (hz : z.nsq = 1) (ht : 0 ≤ t) (hs : 0 ≤ s) (hts : t * s = 1) (hA : S2 N a ≤ A) (hB : S2 N b ≤ B) (l : Nat) :
    Len (dft z N (fun i => (a i).mul (b i)) l) (1/2 * (t * A + s * B)) := by
  have h : Len (dft z N (fun i => (a i).mul (b i)) l) (sumR N (fun i => 1/2 * (t * (a i).nsq + s * (b i).nsq))) := by
    unfold dft
    refine Len.sum fun i _ => ?_
    have := (amgm (a := a i) (b := b i) ht hs hts).mul (Len.unit (Cx.nsq_pow hz (i * l)))
    rw [Rat.mul_one] at this
    exact this
  exact h.mono (sumR_amgm ht hs hA hB)
theorem S2_add_le (N : Nat) (a b : Nat → Cx) : S2 N (fun i => (a i).add (b i)) ≤ 2 * S2 N a + 2 * S2 N b := by
  unfold S2
  rw [← sumR_mul, ← sumR_mul, ← sumR_add]
  refine sumR_le fun i _ => ?_
  have q1 := sq_nonneg ((a i).re - (b i).re)
  have q2 := sq_nonneg ((a i).im - (b i).im)
  unfold Cx.add Cx.nsq
  simp only
  grind
theorem S2_mul_le {N : Nat} {a b : Nat → Cx} {W : Rat} (h : ∀ i, i < N → Len (b i) W) : S2 N (fun i => (a i).mul (b i)) ≤ W * W * S2 N a := by
  unfold S2
  rw [← sumR_mul]
  refine sumR_le fun i hi => ?_
  rw [Cx.nsq_mul]
  have := Rat.mul_le_mul_of_nonneg_left (h i hi).2 (a i).nsq_nonneg
  grind

/-- The passes' error, in the mean. -/
theorem fwd_s2 {k : Nat} {T f : Nat → Nat × Nat} {om : Nat → Cx} {e : Int} (hk1 : 1 ≤ k) (hk : k ≤ 11) (h0 : 0 ≤ e) (h1 : e ≤ 800)
    (hT : ∀ i, i < 2 ^ (k - 1) → Bd 1 (T i)) (hF : ∀ i, i < 2 ^ k → Bd e (f i)) (hu : ∀ m, (om m).nsq = 1) (hr : ∀ j, j < 2 ^ (k - 1) → NearRoot (cv (T j)) (om j)) :
    S2 (2 ^ k) (fun j => (cv (fwdF k T f j)).sub (pip om k 1 (fun i => cv (f i)) j)) ≤ 131072 * (EE * EE) * (p2 k * (S2 (2 ^ k) (fun i => cv (f i)) + p2 k * MU)) := by
  have h := stages_err hk1 hk h0 h1 hT hF hu hr k (Nat.le_refl _) 0 (by rw [Nat.sub_self]; decide)
  simp only [Nat.zero_mul, Nat.zero_add, Nat.sub_self, Nat.pow_zero] at h
  unfold en at h
  rw [part_all] at h
  have h3 : S2 (2 ^ k) (fun j => (cv (fwdF k T f j)).sub (pip om k 1 (fun i => cv (f i)) j)) ≤ (an k : Rat) * (EE * EE) * (p2 k * (S2 (2 ^ k) (fun i => cv (f i)) + ((2 ^ k : Nat) : Rat) * MU)) := h
  rw [← p2_nat] at h3
  have h6 : ((an k : Nat) : Rat) ≤ 131072 := Rat.natCast_le_natCast.2 (an_11 k hk)
  refine Rat.le_trans h3 ?_
  have hX : 0 ≤ p2 k * (S2 (2 ^ k) (fun i => cv (f i)) + p2 k * MU) := by
    have a1 := S2_nonneg (2 ^ k) (fun i => cv (f i))
    have a2 := Rat.mul_nonneg (p2_nonneg (k : Int)) (Rat.le_of_lt MU_pos)
    exact Rat.mul_nonneg (p2_nonneg _) (by grind)
  exact Rat.mul_le_mul_of_nonneg_right (Rat.mul_le_mul_of_nonneg_right h6 EE2_nonneg) hX
/-- .. of a vector of bounded entries. -/
theorem fwd_s2L {k : Nat} {T f : Nat → Nat × Nat} {om : Nat → Cx} {e : Int} {L : Rat} (hk1 : 1 ≤ k) (hk : k ≤ 11) (h0 : 0 ≤ e) (h1 : e ≤ 800)
    (hT : ∀ i, i < 2 ^ (k - 1) → Bd 1 (T i)) (hF : ∀ i, i < 2 ^ k → Bd e (f i)) (hu : ∀ m, (om m).nsq = 1) (hr : ∀ j, j < 2 ^ (k - 1) → NearRoot (cv (T j)) (om j))
    (hL : p2 (-1015) ≤ L) (hf : ∀ i, i < 2 ^ k → Len (cv (f i)) L) :
    S2 (2 ^ k) (fun j => (cv (fwdF k T f j)).sub (pip om k 1 (fun i => cv (f i)) j)) ≤ p2 (-44) * (p2 k * L) * (p2 (-44) * (p2 k * L)) ∧
    S2 (2 ^ k) (pip om k 1 (fun i => cv (f i))) ≤ p2 k * L * (p2 k * L) := by
  have h := fwd_s2 hk1 hk h0 h1 hT hF hu hr
  have h4 := S2_le_len hf
  have hLp : 0 ≤ L := Rat.le_trans (p2_nonneg _) hL
  have h5 : MU ≤ L * L := by
    have : MU = p2 (-1015) * p2 (-1015) := by unfold MU; rw [← p2_add]; rfl
    rw [this]
    exact Rat.le_trans (Rat.mul_le_mul_of_nonneg_left hL (p2_nonneg _)) (Rat.mul_le_mul_of_nonneg_right hL hLp)
  rw [← p2_nat] at h4
  have e1 : 262144 * (EE * EE) = p2 (-44) * p2 (-44) := by unfold EE; decide +kernel
  have hp := p2_nonneg (k : Int)
  have hE := EE2_nonneg
  constructor
  · refine Rat.le_trans h ?_
    have a1 : S2 (2 ^ k) (fun i => cv (f i)) + p2 k * MU ≤ 2 * (p2 k * (L * L)) := by
      have := Rat.mul_le_mul_of_nonneg_left h5 hp
      grind
    have a2 := Rat.mul_le_mul_of_nonneg_left (Rat.mul_le_mul_of_nonneg_left a1 hp) (show 0 ≤ 131072 * (EE * EE) by grind)
    have e2 : 131072 * (EE * EE) * (p2 k * (2 * (p2 k * (L * L)))) = 262144 * (EE * EE) * (p2 k * p2 k * (L * L)) := by grind
    rw [e2, e1] at a2
    have e3 : p2 (-44) * p2 (-44) * (p2 k * p2 k * (L * L)) = p2 (-44) * (p2 k * L) * (p2 (-44) * (p2 k * L)) := by grind
    rw [e3] at a2
    exact a2
  · rw [pip_energy om hu]
    have := Rat.mul_le_mul_of_nonneg_left h4 hp
    grind
end Go.Proofs.Ygctaf
