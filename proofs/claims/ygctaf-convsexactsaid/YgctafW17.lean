/-
  WALKS: fft.W, cacc.within
-/
import Derived.Test.YgctafAcc9
namespace Go.Proofs.Ygctaf
open Go.RowKit Ieee
attribute [local go_sem] run_store_complex run_store_float CV_eq FV_eq

/-- The whole circle, of its first half. -/
def wF (h : Nat) (T : Nat → Nat × Nat) (m : Nat) : Nat × Nat := if m < h then T m else (fneg (T (m - h)).1, fneg (T (m - h)).2)

set_option maxHeartbeats 1000000 in
theorem w_any (tb h cap m : Nat) (T : Nat → Nat × Nat) (w : World) (hh : h ≤ 1024) (hm : m < 2 * h) (hT : Own CV w tb h T) :
    Calls Tafg.prog 62 #[.slice (some ⟨tb, 0, none⟩) h cap, .int .i64 (m : Int)] w fun e w' => e = .returned (CV (wF h T m)) ∧ w' = w := by
  have d1 : ((h : Int) == 0) = false := by simp; omega
  have d2 : decide ((m : Int) < 0) = false := by simp
  have d3 : decide (2 * (h : Int) ≤ (m : Int)) = false := by simp; omega
  by_cases g : m < h
  · have e : wF h T m = T m := by unfold wF; rw [if_pos g]
    have c1 := hT.cell g
    have d4 : (m : Int) < (h : Int) := by omega
    rw [e]
    clear hT e
    go_enter Tafg.func62, Tafg.ntmps62
    go_wp2
    go_ret
    exact ⟨rfl, rfl⟩
  · obtain ⟨j, rfl⟩ : ∃ j, m = h + j := ⟨m - h, by omega⟩
    have e : wF h T (h + j) = (fneg (T j).1, fneg (T j).2) := by unfold wF; rw [if_neg g, Nat.add_sub_cancel_left]
    have c1 := hT.cell (show j < h by omega)
    have r1 := run_fneg (T j).1
    have r2 := run_fneg (T j).2
    have d4 : decide (((h + j : Nat) : Int) < (h : Int)) = false := by simp; omega
    have s1 : ((h + j : Nat) : Int) - (h : Int) = (j : Int) := by omega
    rw [e]
    clear hT e
    go_enter Tafg.func62, Tafg.ntmps62
    go_wp2
    go_ret
    exact ⟨rfl, rfl⟩
theorem w_one (ta : Option Addr) (cap : Nat) (w : World) :
    Calls Tafg.prog 62 #[.slice ta 0 cap, .int .i64 0] w fun e w' => e = .returned (CV (4607182418800017408, 0)) ∧ w' = w := by
  go_enter Tafg.func62, Tafg.ntmps62
  go_wp2
  go_ret
  exact ⟨rfl, rfl⟩
end Go.Proofs.Ygctaf
