/-
  fftx.bluestein AS A PLAIN FUNCTION.
-/
import Derived.Test.YgctafW36
import Derived.Test.YgctafW13
namespace Go.Proofs.Ygctaf
open Go.RowKit Ieee

/-- The padded products. -/
def blY (n : Nat) (x r : Nat → Nat × Nat) (j : Nat) : Nat × Nat := if j < n then cmul (x j) (r j) else (0, 0)
/-- The chirp round the circle, behind k rounds. -/
def blC (k N : Nat) (r : Nat → Nat × Nat) (i : Nat) : Nat × Nat := if i < k then cconj (r i) else if N < i + k then cconj (r (N - i)) else (0, 0)
/-- fftx.bluestein -/
def blP (q n : Nat) (x r : Nat → Nat × Nat) (i : Nat) : Nat × Nat :=
  cmul (fwdF (q + 1) (tabF (q + 1)) (blY n x r) i) (fwdF (q + 1) (tabF (q + 1)) (blC n (2 ^ (q + 1)) r) i)
def blF (q n : Nat) (x r : Nat → Nat × Nat) (j : Nat) : Nat × Nat := cmul (invF (q + 1) (tabF (q + 1)) (blP q n x r) j) (r j)

theorem blC_bd {n N : Nat} {r : Nat → Nat × Nat} (h : ∀ i, i < n → Bd 1 (r i)) : ∀ i, i < N → Bd 1 (blC n N r i) := fun i hi => by
  unfold blC
  split
  · exact Bd.conj (h i (by assumption))
  · split
    · exact Bd.conj (h (N - i) (by omega))
    · exact ⟨B1.zero 1, B1.zero 1⟩
theorem blY_bd {n : Nat} {x r : Nat → Nat × Nat} {e : Int} (h0 : 0 ≤ e) (h1 : e ≤ 800) (hx : ∀ i, i < n → Bd e (x i)) (hr : ∀ i, i < n → Bd 1 (r i)) : ∀ i, Bd (e + 4) (blY n x r i) := fun i => by
  unfold blY
  split
  · rename_i g
    exact ((hx i g).mul (hr i g) (by omega) (by omega)).mono (by omega)
  · exact ⟨B1.zero _, B1.zero _⟩
/-- One round's two stores. -/
theorem blC_step {w : World} {b n N k c : Nat} {r : Nat → Nat × Nat} (hn : 2 * n ≤ N + 1) (hk : k < n) (hc : c = (N - k) % N) (h : Own CV w b N (blC k N r)) :
    Own CV ((w.setCell ⟨b, k, none⟩ (CV (cconj (r k)))).setCell ⟨b, c, none⟩ (CV (cconj (r k)))) b N (blC (k + 1) N r) := by
  have hN : 0 < N := by omega
  have hcl : c < N := by rw [hc]; exact Nat.mod_lt _ hN
  have a := (h.setCell (i := k) (by omega) (cconj (r k))).setCell hcl (cconj (r k))
  refine a.congr fun i hi => ?_
  by_cases e1 : i = c
  · subst e1
    rw [upd_same]
    unfold blC
    rcases Nat.eq_zero_or_pos k with g | g
    · subst g
      rw [Nat.sub_zero, Nat.mod_self] at hc
      subst hc
      rw [if_pos (by omega)]
    · have : i = N - k := by rw [hc]; exact Nat.mod_eq_of_lt (by omega)
      rw [if_neg (by omega), if_pos (show N < i + (k + 1) by omega), show N - i = k from by omega]
  · rw [upd_ne _ _ _ _ e1]
    by_cases e2 : i = k
    · subst e2
      rw [upd_same]
      unfold blC
      rw [if_pos (by omega)]
    · rw [upd_ne _ _ _ _ e2]
      unfold blC
      by_cases g1 : i < k
      · rw [if_pos g1, if_pos (by omega)]
      · rw [if_neg g1, if_neg (show ¬ i < k + 1 by omega)]
        by_cases g2 : N < i + k
        · rw [if_pos g2, if_pos (show N < i + (k + 1) by omega)]
        · rw [if_neg g2, if_neg (show ¬ N < i + (k + 1) from ?_)]
          intro g3
          have : i = N - k := by omega
          have hk0 : 0 < k := by omega
          exact e1 (by rw [hc, this]; exact (Nat.mod_eq_of_lt (by omega)).symm)
theorem blC_zero (N : Nat) (r : Nat → Nat × Nat) (i : Nat) (h : i < N) : blC 0 N r i = (0, 0) := by
  unfold blC
  rw [if_neg (by omega), if_neg (by omega)]
end Go.Proofs.Ygctaf
