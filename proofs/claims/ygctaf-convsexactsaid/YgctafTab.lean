/-
  tw.Base AND tw.Table AS PLAIN FUNCTIONS; every entry is small (the kernel looks at the greatest table).
-/
import Derived.Test.YgctafTabLit
namespace Go.Proofs.Ygctaf
open Ieee

/-- The table behind b of its rounds: right for j < 2^b. -/
def tabL (k : Nat) : Nat → Nat → Nat × Nat
  | 0 => fun _ => oneW
  | b + 1 => fun j => if j < 2 ^ b then tabL k b j else cmul (tabL k b (j - 2 ^ b)) (baseF (k - b))
theorem tabL_low (k b j : Nat) (h : j < 2 ^ b) : tabL k (b + 1) j = tabL k b j := if_pos h
theorem tabL_high (k b j : Nat) : tabL k (b + 1) (2 ^ b + j) = cmul (tabL k b j) (baseF (k - b)) := by
  show (if 2 ^ b + j < 2 ^ b then _ else _) = _
  rw [if_neg (by omega), Nat.add_sub_cancel_left]

/-- Every second entry is the table of the level below. -/
theorem tab_up (k : Nat) : ∀ (b j : Nat), j < 2 ^ b → tabL (k + 1) (b + 1) (2 * j) = tabL k b j
  | 0, j, h => by
    have : j = 0 := by omega
    subst this; rfl
  | b + 1, j, h => by
    rcases Nat.lt_or_ge j (2 ^ b) with h1 | h1
    · rw [tabL_low (k + 1) (b + 1) (2 * j) (by rw [Nat.pow_succ]; omega), tab_up k b j h1, tabL_low k b j h1]
    · obtain ⟨i, rfl⟩ : ∃ i, j = 2 ^ b + i := ⟨j - 2 ^ b, by omega⟩
      rw [Nat.pow_succ] at h
      rw [show 2 * (2 ^ b + i) = 2 ^ (b + 1) + 2 * i from by rw [Nat.pow_succ]; omega, tabL_high, tab_up k b i (by omega), tabL_high]
      congr 2; omega

theorem tabList_len : ∀ b, (tabList b).length = 2 ^ b
  | 0 => rfl
  | b + 1 => by
    rw [tabList_succ, List.length_append, List.length_map, tabList_len b, Nat.pow_succ]; omega
theorem tabList_get : ∀ (b j : Nat) (h : j < (tabList b).length), (tabList b)[j] = tabL 11 b j
  | 0, j, h => by
    have h' : j < 1 := h
    have : j = 0 := by omega
    subst this; rfl
  | b + 1, j, h => by
    have hl := tabList_len b
    have h' : j < 2 ^ (b + 1) := by rw [← tabList_len]; exact h
    rw [Nat.pow_succ] at h'
    have hs := tabList_succ b
    simp only [hs]
    rcases Nat.lt_or_ge j (2 ^ b) with h1 | h1
    · rw [List.getElem_append_left (by omega), tabList_get b j (by omega), tabL_low _ _ _ h1]
    · obtain ⟨i, rfl⟩ : ∃ i, j = 2 ^ b + i := ⟨j - 2 ^ b, by omega⟩
      rw [List.getElem_append_right (by omega), List.getElem_map, tabL_high]
      congr 1
      have : 2 ^ b + i - (tabList b).length = i := by omega
      simp only [this]
      exact tabList_get b i (by omega)

/-- At most 2 in magnitude. -/
def okW (x : Nat) : Bool := decide (x < 2 ^ 64) && decide (x % 2 ^ 63 ≤ 4611686018427387904)
theorem okW_b1 {x : Nat} (h : okW x = true) : B1 1 x := by
  unfold okW at h
  rw [Bool.and_eq_true, decide_eq_true_eq, decide_eq_true_eq] at h
  obtain ⟨h1, h2⟩ := h
  -- the magnitude as a rung
  have hs : double.signWeight = 2 ^ 63 := rfl
  have hb : double.binade = 2 ^ 52 := rfl
  have hi : double.infRung = 2047 * 2 ^ 52 := rfl
  have hp : double.leastPlace = -1074 := rfl
  have hr : ∃ s m i, double.read x = .number s m i ∧ (m : Rat) * p2 i ≤ p2 1 := by
    unfold Format.read
    simp only [hs, hb, hi, hp]
    generalize (x / 2 ^ 63 % 2 == 1) = s
    generalize x % 2 ^ 63 = r at *
    by_cases g1 : r < 2 ^ 52
    · rw [if_pos g1]
      refine ⟨_, _, _, rfl, ?_⟩
      have a := Rat.natCast_lt_natCast.2 g1
      have b := Rat.mul_le_mul_of_nonneg_right (Rat.le_of_lt a) (p2_nonneg (-1074))
      rw [p2_shift] at b
      exact Rat.le_trans b (p2_le (by decide))
    · rw [if_neg g1, if_pos (by omega)]
      refine ⟨_, _, _, rfl, ?_⟩
      by_cases g2 : r = 4611686018427387904
      · subst g2
        have e1 : (2 ^ 52 + 4611686018427387904 % 2 ^ 52 : Nat) = 2 ^ 52 := by decide
        rw [e1, p2_shift]
        exact p2_le (by decide)
      · have a : 2 ^ 52 + r % 2 ^ 52 < 2 ^ 53 := by omega
        have b := Rat.mul_le_mul_of_nonneg_right (Rat.le_of_lt (Rat.natCast_lt_natCast.2 a)) (p2_nonneg (-1074 + ((r / 2 ^ 52 - 1 : Nat) : Int)))
        rw [p2_shift] at b
        exact Rat.le_trans b (p2_le (by omega))
  obtain ⟨s, m, i, hr, hle⟩ := hr
  refine ⟨⟨s, m, i, hr⟩, h1, ?_⟩
  unfold V; rw [hr, dval_abs]; exact hle

theorem tab_ok : ((tabList 10).all fun z => okW z.1 && okW z.2) = true := by rw [tabE10]; decide +kernel

theorem tab11_bd (j : Nat) (h : j < 2 ^ 10) : Bd 1 (tabL 11 10 j) := by
  have hl : j < (tabList 10).length := by rw [tabList_len]; exact h
  have := List.all_eq_true.1 tab_ok ((tabList 10)[j]) (List.getElem_mem hl)
  rw [tabList_get 10 j hl, Bool.and_eq_true] at this
  exact ⟨okW_b1 this.1, okW_b1 this.2⟩
theorem tab_bd_up (d : Nat) : ∀ (k b j : Nat), k + d = 11 → b + d = 10 → j < 2 ^ b → Bd 1 (tabL k b j) := by
  induction d with
  | zero => intro k b j h1 h2 h3; have : k = 11 := by omega
            have : b = 10 := by omega
            subst k b; exact tab11_bd j h3
  | succ d ih =>
    intro k b j h1 h2 h3
    rw [← tab_up k b j h3]
    exact ih (k + 1) (b + 1) (2 * j) (by omega) (by omega) (by rw [Nat.pow_succ]; omega)
/-- Earlier rounds: the first entries of the whole table. -/
theorem tabL_grow (k : Nat) : ∀ (b d j : Nat), j < 2 ^ b → tabL k (b + d) j = tabL k b j
  | b, 0, j, h => rfl
  | b, d + 1, j, h => by
    have : 2 ^ b ≤ 2 ^ (b + d) := Nat.pow_le_pow_right (by decide) (by omega)
    rw [← Nat.add_assoc, tabL_low k (b + d) j (by omega), tabL_grow k b d j h]
/-- The table of level k. -/
def tabF (k j : Nat) : Nat × Nat := tabL k (k - 1) j
theorem tab_bd (k b j : Nat) (hk : 1 ≤ k) (hk2 : k ≤ 11) (hb : b + 1 ≤ k) (h : j < 2 ^ b) : Bd 1 (tabL k b j) := by
  have h2 : 2 ^ b ≤ 2 ^ (k - 1) := Nat.pow_le_pow_right (by decide) (by omega)
  have := tab_bd_up (11 - k) k (k - 1) j (by omega) (by omega) (by omega)
  have e := tabL_grow k b (k - 1 - b) j h
  rw [show b + (k - 1 - b) = k - 1 from by omega] at e
  rw [← e]; exact this
theorem base_ok : (baseL.all fun z => okW z.1 && okW z.2) = true := by decide +kernel
theorem base_bd (t : Nat) : Bd 1 (baseF t) := by
  unfold baseF
  rw [List.getD_eq_getElem?_getD]
  rcases Nat.lt_or_ge t baseL.length with h | h
  · rw [List.getElem?_eq_getElem h, Option.getD_some]
    have := List.all_eq_true.1 base_ok (baseL[t]) (List.getElem_mem h)
    rw [Bool.and_eq_true] at this
    exact ⟨okW_b1 this.1, okW_b1 this.2⟩
  · rw [List.getElem?_eq_none h]
    exact ⟨B1.zero 1, B1.zero 1⟩

end Go.Proofs.Ygctaf
