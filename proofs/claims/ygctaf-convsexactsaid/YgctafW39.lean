/-
  WALKS: fftx.admitted, levels, points, reals, forward.
-/
import Derived.Test.YgctafConvExact
import Derived.Test.YgctafW28
import Derived.Test.YgctafW30
namespace Go.Proofs.Ygctaf
open Go.RowKit Ieee
attribute [local go_sem] run_store_complex run_store_float CV_eq FV_eq

theorem admitted_long (a b : Option Addr) (la acap lb bcap : Nat) (w : World) (h : 512 < la ∨ 512 < lb) :
    Calls Tafg.prog 105 #[.slice a la acap, .slice b lb bcap] w fun e w' => e = .returned (.tuple #[.bool false, .bool false]) ∧ w' = w := by
  by_cases g : 512 < la
  · have d3 : decide ((512 : Int) < (la : Int)) = true := by simp; omega
    clear h
    go_enter Tafg.func105, Tafg.ntmps105
    go_wp2
    go_ret2
    exact ⟨rfl, rfl⟩
  · have d3 : decide ((512 : Int) < (la : Int)) = false := by simp; omega
    have d4 : decide ((512 : Int) < (lb : Int)) = true := by simp; omega
    clear h
    go_enter Tafg.func105, Tafg.ntmps105
    go_wp2
    go_ret2
    exact ⟨rfl, rfl⟩
theorem admitted_empty (a b : Option Addr) (la acap lb bcap : Nat) (w : World) (h : la = 0 ∨ lb = 0) (ha : la ≤ 512) (hb : lb ≤ 512) :
    Calls Tafg.prog 105 #[.slice a la acap, .slice b lb bcap] w fun e w' => e = .returned (.tuple #[.bool false, .bool true]) ∧ w' = w := by
  have d3 : decide ((512 : Int) < (la : Int)) = false := by simp; omega
  have d4 : decide ((512 : Int) < (lb : Int)) = false := by simp; omega
  by_cases g : la = 0
  · have d5 : decide ((0 : Int) < (la : Int)) = false := by simp; omega
    clear h
    go_enter Tafg.func105, Tafg.ntmps105
    go_wp2
    go_ret2
    exact ⟨rfl, rfl⟩
  · have d5 : decide ((0 : Int) < (la : Int)) = true := by simp; omega
    have d7 : decide (0 < lb) = false := by simp; omega
    clear h
    go_enter Tafg.func105, Tafg.ntmps105
    go_wp2
    go_ret2
    exact ⟨rfl, rfl⟩
theorem admitted_good (a b : Option Addr) (la acap lb bcap : Nat) (w : World) (ha1 : 1 ≤ la) (hb1 : 1 ≤ lb) (ha : la ≤ 512) (hb : lb ≤ 512) :
    Calls Tafg.prog 105 #[.slice a la acap, .slice b lb bcap] w fun e w' => e = .returned (.tuple #[.bool true, .bool true]) ∧ w' = w := by
  have d3 : decide ((512 : Int) < (la : Int)) = false := by simp; omega
  have d4 : decide ((512 : Int) < (lb : Int)) = false := by simp; omega
  have d5 : decide ((0 : Int) < (la : Int)) = true := by simp; omega
  have d7 : decide (0 < lb) = true := by simp; omega
  go_enter Tafg.func105, Tafg.ntmps105
  go_wp2
  go_ret2
  exact ⟨rfl, rfl⟩

set_option maxHeartbeats 1000000 in
theorem levels_any (m q : Nat) (w : World) (hq : q ≤ 10) (hlv : IsLvl m q) :
    Calls Tafg.prog 106 #[.int .i64 (m : Int)] w fun e w' => e = .returned (.int .u8 ((q : Int) + 1)) ∧ w' = w := by
  have HLV := hid hlv
  clear hlv
  go_enter Tafg.func106, Tafg.ntmps106
  go_wp2
  go_loop [3] (fun s => ∃ p : Nat, 1 ≤ p ∧ p ≤ q + 1 ∧ s = .int .u8 (p : Int)) (fun s => 20 - (intOf s).toNat)
  case atStart => exact ⟨1, Nat.le_refl _, by omega, rfl⟩
  case round =>
    obtain ⟨p, hp1, hp, rfl⟩ := hrel
    obtain ⟨pp, hpp⟩ : ∃ pp, pp = 2 ^ p := ⟨_, rfl⟩
    have hpb : pp ≤ 2048 := by rw [hpp]; exact Nat.pow_le_pow_right (n := 2) (by decide) (show p ≤ 11 by omega)
    have ws := wrap_at (j := p) (by omega) hpp
    by_cases hlt : p < q + 1
    · have hmore : 2 ^ p < m := by have := isLvl_more HLV.out (p := p - 1) (by omega); rwa [show p - 1 + 1 = p from by omega] at this
      rw [← hpp] at hmore
      have c1 : (pp : Int) < (m : Int) := by omega
      have wsp := ws p rfl
      clear hpp hmore ws
      go_wp2
      go_round
      case rel => exact ⟨p + 1, by omega, by omega, by go_num⟩
      case measure => simp [intOf]; omega
    · have e : p = q + 1 := by omega
      subst e
      have hle : pp ≥ m := by have := HLV.out.1; rw [hpp]; exact this
      have c1 : decide ((pp : Int) < (m : Int)) = false := by simp; omega
      have wsp := ws (q + 1) rfl
      clear hpp ws
      go_wp2
      go_ret
      exact ⟨rfl, rfl⟩

set_option maxHeartbeats 1000000 in
theorem pointsx_any (ab off la cap n : Nat) (za : Nat → Int) (w : World) (hb : ab < w.heap.size) (hla : la ≤ n) (hn : n ≤ 4096) (hr : Rd (Value.int .u8) w ab off la za) :
    Calls Tafg.prog 108 #[.slice (some ⟨ab, off, none⟩) la cap, .int .i64 (n : Int)] w fun e w' =>
      e = .returned (.slice (some ⟨w.heap.size, 0, none⟩) n n) ∧ Own CV w' w.heap.size n (ptsF la za) ∧ Frm [] w w' ∧ w'.heap.size = w.heap.size + 1 := by
  have hmk := make_c n (by omega)
  have hfi := floatOfInt_eq
  have HR := hid hr
  clear hr
  go_enter Tafg.func108, Tafg.ntmps108
  go_wp2
  go_loopw [6] (fun i wr => ∃ k : Nat, k ≤ la ∧ i = .int .i64 k ∧ Own CV wr w.heap.size n (fun j => if j < k then ptsF la za j else (0, 0)) ∧ Frm [] w wr ∧ wr.heap.size = w.heap.size + 1) (fun i _ => la - (intOf i).toNat)
  case atStart => exact ⟨0, Nat.zero_le _, rfl, by simpa using Own.madeC, (Frm.refl _ _).alloc _, by simp⟩
  case round =>
    obtain ⟨k, hk, rfl, hown, hfr, hsz⟩ := hrel
    by_cases hlt : k < la
    · have c1 : wr.cell? ⟨ab, off + k, none⟩ = some (.int .u8 (za k)) := (HR.out.frame hfr hb (by simp)) k hlt
      obtain ⟨old, c3, c4⟩ := hown.get (show k < n by omega)
      have hst := hown.step (show k < n by omega) (v := .complex .f64 (fint (za k)) 0) (by unfold ptsF; rw [if_pos hlt]; rfl)
      have HST := hid hst
      have HFR := hid hfr
      have HSZ := hid hsz
      clear hst hown hfr hsz
      go_wp2
      go_roundw
      case rel => exact ⟨k + 1, by omega, by go_num, HST.out, HFR.out.setCell (.inr (Nat.le_refl _)) _, by simpa using HSZ.out⟩
      case measure => simp [intOf]; omega
    · have hfull : Own CV wr w.heap.size n (ptsF la za) := hown.congr fun i _ => by
        by_cases g : i < k
        · rw [if_pos g]
        · rw [if_neg g]; unfold ptsF; rw [if_neg (by omega)]
      have HST := hid hfull
      have HFR := hid hfr
      have HSZ := hid hsz
      clear hfull hown hfr hsz
      go_wp2
      go_ret
      exact ⟨rfl, HST.out, HFR.out, HSZ.out⟩

/-- The digits as floats. -/
def rlsF (la : Nat) (za : Nat → Int) : Nat → Nat := fun i => if i < la then fint (za i) else 0
set_option maxHeartbeats 1000000 in
theorem reals_any (ab off la cap n : Nat) (za : Nat → Int) (w : World) (hb : ab < w.heap.size) (hla : la ≤ n) (hn : n ≤ 4096) (hr : Rd (Value.int .u8) w ab off la za) :
    Calls Tafg.prog 107 #[.slice (some ⟨ab, off, none⟩) la cap, .int .i64 (n : Int)] w fun e w' =>
      e = .returned (.slice (some ⟨w.heap.size, 0, none⟩) n n) ∧ Own FV w' w.heap.size n (rlsF la za) ∧ Frm [] w w' ∧ w'.heap.size = w.heap.size + 1 := by
  have hmk := make_f n (by omega)
  have hfi := floatOfInt_eq
  have HR := hid hr
  clear hr
  go_enter Tafg.func107, Tafg.ntmps107
  go_wp2
  go_loopw [6] (fun i wr => ∃ k : Nat, k ≤ la ∧ i = .int .i64 k ∧ Own FV wr w.heap.size n (fun j => if j < k then rlsF la za j else 0) ∧ Frm [] w wr ∧ wr.heap.size = w.heap.size + 1) (fun i _ => la - (intOf i).toNat)
  case atStart => exact ⟨0, Nat.zero_le _, rfl, by simpa using Own.madeF, (Frm.refl _ _).alloc _, by simp⟩
  case round =>
    obtain ⟨k, hk, rfl, hown, hfr, hsz⟩ := hrel
    by_cases hlt : k < la
    · have c1 : wr.cell? ⟨ab, off + k, none⟩ = some (.int .u8 (za k)) := (HR.out.frame hfr hb (by simp)) k hlt
      obtain ⟨old, c3, c4⟩ := hown.get (show k < n by omega)
      have hst := hown.step (show k < n by omega) (v := .float .f64 (fint (za k))) (by unfold rlsF; rw [if_pos hlt]; rfl)
      have HST := hid hst
      have HFR := hid hfr
      have HSZ := hid hsz
      clear hst hown hfr hsz
      go_wp2
      go_roundw
      case rel => exact ⟨k + 1, by omega, by go_num, HST.out, HFR.out.setCell (.inr (Nat.le_refl _)) _, by simpa using HSZ.out⟩
      case measure => simp [intOf]; omega
    · have hfull : Own FV wr w.heap.size n (rlsF la za) := hown.congr fun i _ => by
        by_cases g : i < k
        · rw [if_pos g]
        · rw [if_neg g]; unfold rlsF; rw [if_neg (by omega)]
      have HST := hid hfull
      have HFR := hid hfr
      have HSZ := hid hsz
      clear hfull hown hfr hsz
      go_wp2
      go_ret
      exact ⟨rfl, HST.out, HFR.out, HSZ.out⟩
end Go.Proofs.Ygctaf
