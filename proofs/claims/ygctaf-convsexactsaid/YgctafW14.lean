/-
  WALKS: law.bitsC, law.sameInts, fft.Convolve, law.ConvIsTransform.
-/
import Derived.Test.YgctafW13
import Derived.Test.YgctafRoundAll
import Derived.Test.YgctafOpen
namespace Go.Proofs.Ygctaf
open Go.RowKit
attribute [local go_sem] run_store_complex run_store_float CV_eq FV_eq

theorem bitsC_same (z : Nat × Nat) (w : World) :
    Calls Tafg.prog 37 #[CV z, .int .u64 (z.1 : Int), .int .u64 (z.2 : Int)] w fun e w' => e = .returned (.bool true) ∧ w' = w := by
  have h1 := b64_any z.1
  have h2 := b64_any z.2
  go_enter Tafg.func37, Tafg.ntmps37
  go_wp2_with (first | (go_at_call_of 38 (Value.float .f64 z.1); refine same_mono (h1 _) ?_) | (go_at_call_of 38 (Value.float .f64 z.2); refine same_mono (h2 _) ?_))
  go_ret
  exact ⟨rfl, rfl⟩

set_option maxHeartbeats 1000000 in
theorem sameInts_any (b1 c1 b2 c2 n : Nat) (f : Nat → Int) (w : World) (hn : n ≤ 4096) (h1 : Own (Value.int .i64) w b1 n f) (h2 : Own (Value.int .i64) w b2 n f) :
    Calls Tafg.prog 41 #[.slice (some ⟨b1, 0, none⟩) n c1, .slice (some ⟨b2, 0, none⟩) n c2] w fun e w' => e = .returned (.bool true) ∧ Frm [] w w' := by
  have hnil1 := fun w => Lib.run_eql_slice_nil (P := Tafg.prog) w 58 2 (some ⟨b1, 0, none⟩) n c1 0 0 Tafg.underlying58
  have hnil2 := fun w => Lib.run_eql_slice_nil (P := Tafg.prog) w 58 2 (some ⟨b2, 0, none⟩) n c2 0 0 Tafg.underlying58
  have H1 := hid h1
  have H2 := hid h2
  clear h1 h2
  go_enter Tafg.func41, Tafg.ntmps41
  go_wp2
  go_loopw [4, 5] (fun _ i wr => ∃ k : Nat, k ≤ n ∧ i = .int .i64 k ∧ Frm [] w wr) (fun _ i _ => n - (intOf i).toNat)
  case atStart => exact ⟨0, Nat.zero_le _, rfl, Frm.refl _ _⟩
  case round =>
    obtain ⟨k, hk, rfl, hfr⟩ := hrel
    by_cases hlt : k < n
    · have g1 := (H1.out.frame hfr (by simp)).cell hlt
      have g2 := (H2.out.frame hfr (by simp)).cell hlt
      have b5 : (0 : Int) ≤ (k : Int) := by omega
      have b6 : (k : Int) < (n : Int) := by omega
      have HFR := hid hfr
      clear hfr
      go_wp2
      go_quiet (fail)
      go_wp2
      go_roundw
      case rel => exact ⟨k + 1, by omega, by go_num, HFR.out.drewN _⟩
      case measure => simp [intOf]; omega
    · go_wp2
      go_ret
      exact ⟨rfl, hfr⟩

theorem sameInts_nil (w : World) :
    Calls Tafg.prog 41 #[.slice none 0 0, .slice none 0 0] w fun e w' => e = .returned (.bool true) ∧ Frm [] w w' := by
  have hnil1 := fun w => Lib.run_eql_slice_nil (P := Tafg.prog) w 58 2 none 0 0 0 0 Tafg.underlying58
  go_enter Tafg.func41, Tafg.ntmps41
  go_wp2
  go_loopw [4, 5] (fun _ i wr => i = .int .i64 0 ∧ Frm [] w wr) (fun _ i _ => 0)
  case atStart => exact ⟨rfl, Frm.refl _ _⟩
  case round =>
    obtain ⟨rfl, hfr⟩ := hrel
    go_wp2
    go_ret
    exact ⟨rfl, hfr⟩

/-! ### fft.Convolve -/
set_option maxHeartbeats 1000000 in
theorem convolve_any (ab aoff la acap bb boff lb bcap q n : Nat) (za zb : Nat → Int) (w : World) (ha1 : 1 ≤ la) (ha2 : la ≤ 512) (hb1 : 1 ≤ lb) (hb2 : lb ≤ 512) (hq : q ≤ 9) (hlv : IsLvl (la + lb - 1) q) (hn : n = 2 ^ (q + 1))
    (hab : ab < w.heap.size) (hbb : bb < w.heap.size) (hra : Rd (Value.int .u8) w ab aoff la za) (hrb : Rd (Value.int .u8) w bb boff lb zb)
    (va : ∀ i, i < la → 0 ≤ za i ∧ za i ≤ 255) (vb : ∀ i, i < lb → 0 ≤ zb i ∧ zb i ≤ 255) (m : Nat) (hm : m + 1 = la + lb) :
    Calls Tafg.prog 39 #[.slice (some ⟨ab, aoff, none⟩) la acap, .slice (some ⟨bb, boff, none⟩) lb bcap] w fun e w' =>
      ∃ C, e = .returned (.tuple #[.slice (some ⟨C, 0, none⟩) m m, .bool (sureF (rawF (q + 1) la za lb zb) m n)]) ∧ w.heap.size ≤ C ∧ Own (Value.int .i64) w' C m (fun i => (nearF (rawF (q + 1) la za lb zb i).1).1) ∧ Frm [] w w' := by
  have hraw := raw_any ab aoff la acap bb boff lb bcap q n za zb w ha1 ha2 hb1 hb2 hq hlv hn hab hbb hra hrb va vb
  have hmn : m ≤ n := by have := hlv.1; omega
  have hb3 : n ≤ 1024 := by
    have : 2 ^ (q + 1) ≤ 2 ^ 10 := Nat.pow_le_pow_right (by decide) (by omega)
    omega
  have d1 : ((la : Int) == 0) = false := by simp; omega
  have d2 : ((lb : Int) == 0) = false := by simp; omega
  have d3 : decide ((512 : Int) < (la : Int)) = false := by simp; omega
  have d4 : decide ((512 : Int) < (lb : Int)) = false := by simp; omega
  have e1 : (la : Int) + (lb : Int) - 1 = (m : Int) := by omega
  have HRAW := hid hraw
  clear hraw hlv hn hra hrb va vb hm
  go_enter Tafg.func39, Tafg.ntmps39
  go_wp2_with fail
  refine Calls.mono HRAW.out ?_
  rintro e w1 ⟨B, rfl, hB, hown, hfr⟩
  go_wp2_with fail
  refine (roundAll_pos B n n m _ w1 (by omega) hmn (by omega) hown).mono ?_
  rintro e w2 ⟨rfl, hown2, hfr2⟩
  go_wp2
  go_ret2
  exact ⟨w1.heap.size, rfl, hfr.size, hown2, hfr.trans hfr2⟩

theorem convolve_long (a b : Option Addr) (la acap lb bcap : Nat) (w : World) (h : 512 < la ∨ 512 < lb) (ha : la * 1 ≤ 140737488351232) (hb : lb * 1 ≤ 140737488351232) :
    Calls Tafg.prog 39 #[.slice a la acap, .slice b lb bcap] w fun e w' => e = .returned (.tuple #[.slice none 0 0, .bool false]) ∧ w' = w := by
  by_cases g : 512 < la
  · have d3 : decide ((512 : Int) < (la : Int)) = true := by simp; omega
    clear h
    go_enter Tafg.func39, Tafg.ntmps39
    go_wp2
    go_ret2
    exact ⟨rfl, rfl⟩
  · have d3 : decide ((512 : Int) < (la : Int)) = false := by simp; omega
    have d4 : (512 : Int) < (lb : Int) := by omega
    clear h
    go_enter Tafg.func39, Tafg.ntmps39
    go_wp2
    go_ret2
    exact ⟨rfl, rfl⟩

theorem raw_nil (a b : Option Addr) (la acap lb bcap : Nat) (w : World) (h : la = 0 ∨ lb = 0 ∨ 512 < la ∨ 512 < lb) (ha : la ≤ 140737488351232) (hb : lb ≤ 140737488351232) :
    Calls Tafg.prog 35 #[.slice a la acap, .slice b lb bcap] w fun e w' => e = .returned (.slice none 0 0) ∧ w' = w := by
  by_cases g1 : la = 0
  · subst g1
    go_enter Tafg.func35, Tafg.ntmps35
    go_wp2
    go_ret
    exact ⟨rfl, rfl⟩
  have d1 : ((la : Int) == 0) = false := by simp; omega
  by_cases g2 : lb = 0
  · subst g2
    go_enter Tafg.func35, Tafg.ntmps35
    go_wp2
    go_ret
    exact ⟨rfl, rfl⟩
  have d2 : ((lb : Int) == 0) = false := by simp; omega
  by_cases g3 : 512 < la
  · have d3 : decide ((512 : Int) < (la : Int)) = true := by simp; omega
    clear h
    go_enter Tafg.func35, Tafg.ntmps35
    go_wp2
    go_ret
    exact ⟨rfl, rfl⟩
  · have d3 : decide ((512 : Int) < (la : Int)) = false := by simp; omega
    have d4 : decide ((512 : Int) < (lb : Int)) = true := by simp; omega
    clear h
    go_enter Tafg.func35, Tafg.ntmps35
    go_wp2
    go_ret
    exact ⟨rfl, rfl⟩
end Go.Proofs.Ygctaf
