/-
  fft.Stage, PLAIN.
-/
import Derived.Test.YgctafTab
import Derived.Test.YgctafMem
namespace Go.Proofs.Ygctaf

/-- One pass of butterflies over blocks of 2*hf points; the table is read at steps of sp. -/
def stageF (hf sp : Nat) (T f : Nat → Nat × Nat) : Nat → Nat × Nat := fun a =>
  if a % (2 * hf) < hf then cadd (f a) (cmul (f (a + hf)) (T (a % (2 * hf) * sp)))
  else csub (f (a - hf)) (cmul (f a) (T ((a % (2 * hf) - hf) * sp)))

/-- In the midst of block s: its first j pairs are done. -/
def stPart (hf sp : Nat) (T f : Nat → Nat × Nat) (s j : Nat) : Nat → Nat × Nat := fun a =>
  if a < s ∨ (s ≤ a ∧ a < s + j) ∨ (s + hf ≤ a ∧ a < s + hf + j) then stageF hf sp T f a else f a

theorem stPart_zero (hf sp : Nat) (T f : Nat → Nat × Nat) : stPart hf sp T f 0 0 = f := by
  funext a; unfold stPart; rw [if_neg (by omega)]
theorem stPart_next (hf sp : Nat) (T f : Nat → Nat × Nat) (s : Nat) : stPart hf sp T f s hf = stPart hf sp T f (s + 2 * hf) 0 := by
  funext a; unfold stPart
  have : (a < s ∨ (s ≤ a ∧ a < s + hf) ∨ (s + hf ≤ a ∧ a < s + hf + hf)) = (a < s + 2 * hf ∨ (s + 2 * hf ≤ a ∧ a < s + 2 * hf + 0) ∨ (s + 2 * hf + hf ≤ a ∧ a < s + 2 * hf + hf + 0)) := by
    rw [eq_iff_iff]; omega
  simp only [this]
theorem stPart_p (hf sp : Nat) (T f : Nat → Nat × Nat) (s j : Nat) (hj : j < hf) : stPart hf sp T f s j (s + j) = f (s + j) := by
  unfold stPart; rw [if_neg (by omega)]
theorem stPart_q (hf sp : Nat) (T f : Nat → Nat × Nat) (s j : Nat) (hj : j < hf) : stPart hf sp T f s j (s + j + hf) = f (s + j + hf) := by
  unfold stPart; rw [if_neg (by omega)]
theorem mod_block (s c hf : Nat) (hs : s = 2 * hf * c) (r : Nat) (hr : r < 2 * hf) : (s + r) % (2 * hf) = r := by
  subst hs
  rw [Nat.mul_add_mod, Nat.mod_eq_of_lt hr]

theorem own_stage {w : World} {b n hf sp s j c : Nat} {T f : Nat → Nat × Nat} (hs : s = 2 * hf * c) (hj : j < hf) (hn : s + 2 * hf ≤ n) (h : Own CV w b n (stPart hf sp T f s j)) :
    Own CV ((w.setCell ⟨b, s + j, none⟩ (CV (cadd (f (s + j)) (cmul (f (s + j + hf)) (T (j * sp)))))).setCell ⟨b, s + j + hf, none⟩ (CV (csub (f (s + j)) (cmul (f (s + j + hf)) (T (j * sp)))))) b n (stPart hf sp T f s (j + 1)) := by
  refine ((h.setCell (i := s + j) (by omega) _).setCell (i := s + j + hf) (by omega) _).congr fun a ha => ?_
  by_cases h1 : a = s + j + hf
  · subst h1
    rw [upd_same]
    have hm : (s + j + hf) % (2 * hf) = j + hf := by rw [Nat.add_assoc]; exact mod_block s c hf hs _ (by omega)
    unfold stPart stageF
    rw [if_pos (by omega), hm, if_neg (by omega), show s + j + hf - hf = s + j from by omega, show j + hf - hf = j from by omega]
  · rw [upd_ne _ _ _ _ h1]
    by_cases h2 : a = s + j
    · subst h2
      rw [upd_same]
      have hm : (s + j) % (2 * hf) = j := mod_block s c hf hs _ (by omega)
      unfold stPart stageF
      rw [if_pos (by omega), hm, if_pos hj]
    · rw [upd_ne _ _ _ _ h2]
      unfold stPart
      have : (a < s ∨ (s ≤ a ∧ a < s + j) ∨ (s + hf ≤ a ∧ a < s + hf + j)) = (a < s ∨ (s ≤ a ∧ a < s + (j + 1)) ∨ (s + hf ≤ a ∧ a < s + hf + (j + 1))) := by
        rw [eq_iff_iff]; omega
      simp only [this]

theorem mod_lt_add {a n hf c : Nat} (hn : n = 2 * hf * c) (ha : a < n) (hr : a % (2 * hf) < hf) : a + hf < n := by
  have h2 := Nat.div_add_mod a (2 * hf)
  have hc : a / (2 * hf) < c := by
    rw [Nat.div_lt_iff_lt_mul (by omega)]
    rw [Nat.mul_comm]; omega
  have : 2 * hf * (a / (2 * hf)) + 2 * hf ≤ 2 * hf * c := by
    have := Nat.mul_le_mul_left (2 * hf) (show a / (2 * hf) + 1 ≤ c from hc)
    rw [Nat.mul_add, Nat.mul_one] at this
    exact this
  omega
theorem stageF_bd {hf sp n c h : Nat} {T f : Nat → Nat × Nat} {e : Int} (h0 : 0 ≤ e) (h1 : e ≤ 900) (hn : n = 2 * hf * c) (hh : hf * sp ≤ h) (hT : ∀ i, i < h → Bd 1 (T i)) (hF : ∀ i, i < n → Bd e (f i)) (hsp : 0 < sp) :
    ∀ a, a < n → Bd (e + 6) (stageF hf sp T f a) := by
  intro a ha
  have hidx : ∀ r, r < hf → r * sp < h := fun r hr => by
    have : r * sp < hf * sp := Nat.mul_lt_mul_of_pos_right hr hsp
    omega
  unfold stageF
  by_cases hr : a % (2 * hf) < hf
  · rw [if_pos hr]
    have m := (hF (a + hf) (mod_lt_add hn ha hr)).mul (hT _ (hidx _ hr)) (by omega) (by omega)
    exact (((hF a ha).mono (show e ≤ e + 1 + 3 by omega)).add m (by omega) (by omega)).mono (by omega)
  · rw [if_neg hr]
    have hpos : 0 < 2 * hf := by
      rcases Nat.eq_zero_or_pos hf with h | h
      · subst h; omega
      · omega
    have hm := Nat.mod_lt a hpos
    have m := (hF a ha).mul (hT _ (hidx (a % (2 * hf) - hf) (by omega))) (by omega) (by omega)
    exact (((hF (a - hf) (by omega)).mono (show e ≤ e + 1 + 3 by omega)).sub m (by omega) (by omega)).mono (by omega)

end Go.Proofs.Ygctaf
