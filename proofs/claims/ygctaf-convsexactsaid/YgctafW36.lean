/-
  WALKS: fftx.chirp.
-/
import Derived.Test.YgctafRootsNear
namespace Go.Proofs.Ygctaf
open Go.RowKit Ieee
attribute [local go_sem] run_store_complex run_store_float CV_eq FV_eq

/-- fftx.chirp -/
def chF (n j : Nat) : Nat × Nat := rootF (2 * n) (j * j % (2 * n))
theorem chF_bd {n j : Nat} (h0 : 0 < n) (hn : n ≤ 1024) : Bd 1 (chF n j) := (root_near (n := 2 * n) (by omega) (by omega) (Nat.mod_lt _ (by omega))).1

set_option maxHeartbeats 1000000 in
theorem chirp_any (n : Nat) (h0 : 0 < n) (hn : n ≤ 1024) (w : World) :
    Calls Tafg.prog 102 #[.int .i64 (n : Int)] w fun e w' =>
      e = .returned (.slice (some ⟨w.heap.size, 0, none⟩) n n) ∧ Own CV w' w.heap.size n (chF n) ∧ Frm [] w w' := by
  have hmk := make_c n (by omega)
  go_enter Tafg.func102, Tafg.ntmps102
  go_wp2
  go_loopw [4] (fun i wr => ∃ k : Nat, k ≤ n ∧ i = .int .i64 k ∧ Own CV wr w.heap.size n (fun j => if j < k then chF n j else (0, 0)) ∧ Frm [] w wr) (fun i _ => n - (intOf i).toNat)
  case atStart => exact ⟨0, Nat.zero_le _, rfl, by simpa using Own.madeC, (Frm.refl _ _).alloc _⟩
  case round =>
    obtain ⟨k, hk, rfl, hown, hfr⟩ := hrel
    by_cases hlt : k < n
    · obtain ⟨m, hm⟩ : ∃ m, m = 2 * n := ⟨_, rfl⟩
      obtain ⟨p, hp⟩ : ∃ p, p = k * k := ⟨_, rfl⟩
      obtain ⟨r, hr⟩ : ∃ r, r = p % m := ⟨_, rfl⟩
      have e1 : 2 * (n : Int) = (m : Int) := by omega
      have e2 : (k : Int) * (k : Int) = (p : Int) := by rw [hp, Int.natCast_mul]
      have e3 : (p : Int).tmod (m : Int) = (r : Int) := by rw [Int.tmod_eq_emod_of_nonneg (by omega), hr, Int.natCast_emod]
      have hpb : p ≤ 1048576 := by rw [hp]; exact Nat.mul_le_mul (show k ≤ 1024 by omega) (show k ≤ 1024 by omega)
      have hrl : r < m := by rw [hr]; exact Nat.mod_lt _ (by omega)
      have cR := root_nat m r (r : Int) (by omega) (by omega) (Int.emod_eq_of_lt (by omega) (by omega))
      have ev : rootF m r = chF n k := by unfold chF; rw [← hm, ← hp, ← hr]
      rw [ev] at cR
      have c3 := hown.cell hlt
      have c4 := hown.free hlt
      have HST := hid (hown.step (f := chF n) hlt rfl)
      have HFR := hid hfr
      have p4 : ((m : Int) == 0) = false := by simp; omega
      clear hown hfr hm hp hr ev
      go_wp2_with (first | (go_at_call 57; refine same_mono (cR _) ?_))
      go_roundw
      case rel => exact ⟨k + 1, hlt, by go_num, HST.out, HFR.out.setCell (.inr (Nat.le_refl _)) _⟩
      case measure => simp [intOf]; omega
    · have HST := hid (hown.full (f := chF n) (by omega))
      have HFR := hid hfr
      clear hown hfr
      go_wp2
      go_ret
      exact ⟨rfl, HST.out, HFR.out⟩
end Go.Proofs.Ygctaf
