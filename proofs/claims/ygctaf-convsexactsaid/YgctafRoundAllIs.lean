/-
  WALKS: fft.RoundAll at m = 0; law.roundAllIs; law.RoundAllRight.
-/
import Derived.Test.YgctafRoundAll
import Derived.Deep.RegionWith
namespace Go.Proofs.Ygctaf
open Go.RowKit
attribute [local go_sem] run_store_complex run_store_float

set_option maxHeartbeats 1000000 in
theorem roundAll_zero (b n cap : Nat) (f : Nat → Nat × Nat) (w : World) (hn : n ≤ 4096) (hf : Own CV w b n f) :
    Calls Tafg.prog 40 #[.slice (some ⟨b, 0, none⟩) n cap, .int .i64 0] w fun e w' =>
      e = .returned (.tuple #[.slice none 0 0, .bool (sureF f 0 n)]) ∧ w' = w := by
  have HF : Hid (Own CV w b n f) := hf
  clear hf
  have d2 : ¬ ((n : Int) < 0) := by omega
  go_enter Tafg.func40, Tafg.ntmps40
  go_wp2
  go_loop [5, 6, 7] (fun s i _ => ∃ k : Nat, k ≤ n ∧ i = .int .i64 k ∧ s = .bool (sureF f 0 k)) (fun _ i _ => n - (intOf i).toNat)
  case atStart => exact ⟨0, Nat.zero_le _, rfl, rfl⟩
  case round =>
    obtain ⟨k, hk, rfl, rfl⟩ := hrel
    by_cases hlt : k < n
    · have c1 : w.cell? ⟨b, k, none⟩ = some (.complex .f64 (f k).1 (f k).2) := HF.out.cell hlt
      have hs := sureF_succ f 0 k
      have hok : okF f 0 k = quarterB (f k).1 := by unfold okF; rw [if_neg (by omega)]
      rw [hok] at hs
      have HS := (show Hid _ from hs)
      clear hs hok
      have d4 : ¬ ((k : Int) < 0) := by omega
      cases g1 : quarterB (f k).1
      · go_wp2_with (first | (go_at_call 80; refine (quarter_any _ _).mono ?_; rintro e w' ⟨rfl, rfl⟩))
        go_round
        case rel => exact ⟨k + 1, by omega, by go_num, by rw [HS.out, g1]; simp⟩
        case measure => simp [intOf]; omega
      · cases g2 : quarterB (f k).2
        · go_wp2_with (first | (go_at_call 80; refine (quarter_any _ _).mono ?_; rintro e w' ⟨rfl, rfl⟩))
          go_round
          case rel => exact ⟨k + 1, by omega, by go_num, by rw [HS.out, g1, g2]; simp⟩
          case measure => simp [intOf]; omega
        · go_wp2_with (first | (go_at_call 80; refine (quarter_any _ _).mono ?_; rintro e w' ⟨rfl, rfl⟩))
          go_round
          case rel => exact ⟨k + 1, by omega, by go_num, by rw [HS.out, g1, g2]; simp⟩
          case measure => simp [intOf]; omega
    · have e : k = n := by omega
      subst e
      go_wp2
      go_ret2
      exact ⟨rfl, rfl⟩

theorem roundAllIs_bad (b n cap : Nat) (m : Int) (w : World) (hm : m < 0 ∨ (n : Int) < m) :
    Calls Tafg.prog 34 #[.slice (some ⟨b, 0, none⟩) n cap, .int .i64 m] w fun e w' => e = .returned (.bool true) ∧ Frm [] w w' := by
  have hc := roundAll_bad b n cap m
  have hnil := fun w => Lib.run_eql_slice_nil (P := Tafg.prog) w 58 2 none 0 0 0 0 Tafg.underlying58
  by_cases h : m < 0
  · have h' : decide (m < 0) = true := by simpa using h
    go_enter Tafg.func34, Tafg.ntmps34
    go_wp2_with (first | (go_at_call 40; refine (hc _ hm).mono ?_; rintro e w' ⟨rfl, rfl⟩))
    go_ret
    exact ⟨rfl, Frm.refl _ _⟩
  · have h' : decide (m < 0) = false := by simpa using h
    have h2 : (n : Int) < m := by omega
    go_enter Tafg.func34, Tafg.ntmps34
    go_wp2_with (first | (go_at_call 40; refine (hc _ hm).mono ?_; rintro e w' ⟨rfl, rfl⟩))
    go_ret
    exact ⟨rfl, Frm.refl _ _⟩


theorem want_eq (a b c : Bool) : (a && b && c) = (a && (b && c)) := by cases a <;> cases b <;> cases c <;> rfl

set_option maxHeartbeats 1000000 in
theorem roundAllIs_pos (b n cap m : Nat) (f : Nat → Nat × Nat) (w : World) (h0 : 0 < m) (hmn : m ≤ n) (hn : n ≤ 4096) (hf : Own CV w b n f) (h64 : ∀ i, i < n → (f i).1 < 2 ^ 64 ∧ (f i).2 < 2 ^ 64) :
    Calls Tafg.prog 34 #[.slice (some ⟨b, 0, none⟩) n cap, .int .i64 (m : Int)] w fun e w' => e = .returned (.bool true) ∧ Frm [] w w' := by
  have HF : Hid (Own CV w b n f) := hf
  have H64 := (show Hid _ from h64)
  have hb := hf.1
  clear hf h64
  have d1 : decide ((m : Int) < 0) = false := by simp
  have d2 : decide (n < m) = false := by simp; omega
  have d2' : ¬ n < m := by omega
  have d3 : ((m : Int) == 0) = false := by simp; omega
  go_enter Tafg.func34, Tafg.ntmps34
  go_wp2_with (first | (go_at_call 40; refine (roundAll_pos b n cap m f _ h0 hmn hn HF.out).mono ?_; rintro e w1 ⟨rfl, hown, hfr⟩))
  go_loop [4, 7, 8, 9, 10, 11] (fun _ s i _ _ _ => ∃ k : Nat, k ≤ n ∧ i = .int .i64 k ∧ s = .bool (sureF f m k)) (fun _ _ i _ _ _ => n - (intOf i).toNat)
  case atStart => exact ⟨0, Nat.zero_le _, rfl, rfl⟩
  case round =>
    obtain ⟨k, hk, rfl, rfl⟩ := hrel
    by_cases hlt : k < n
    · have c1 : w1.cell? ⟨b, k, none⟩ = some (.complex .f64 (f k).1 (f k).2) := (HF.out.frame hfr (by simp)).cell hlt
      have q1 := lquarter_any (f k).1 (H64.out k hlt).1
      have q2 := lquarter_any (f k).2 (H64.out k hlt).2
      by_cases hkm : k < m
      · have c3 : w1.cell? ⟨w.heap.size, k, none⟩ = some (.int .i64 (nearF (f k).1).1) := hown.cell hkm
        have hs := sureF_succ f m k
        have hok : okF f m k = (nearF (f k).1).2 := by unfold okF; rw [if_pos hkm]
        rw [hok, ← want_eq] at hs
        have HS := (show Hid _ from hs)
        clear hs hok
        cases g0 : sureF f m k
        · go_wp2_with (first | (go_at_call_of 25 (Value.float .f64 (f k).1); refine same_mono (q1 _) ?_) | (go_at_call_of 25 (Value.float .f64 (f k).2); refine same_mono (q2 _) ?_) | (go_at_call 24; refine same_mono (nearest_any _ _) ?_))
          go_round
          case rel => exact ⟨k + 1, by omega, by go_num, by rw [HS.out, g0]; simp⟩
          case measure => simp [intOf]; omega
        · cases g1 : (nearF (f k).1).2
          · go_wp2_with (first | (go_at_call_of 25 (Value.float .f64 (f k).1); refine same_mono (q1 _) ?_) | (go_at_call_of 25 (Value.float .f64 (f k).2); refine same_mono (q2 _) ?_) | (go_at_call 24; refine same_mono (nearest_any _ _) ?_))
            go_round
            case rel => exact ⟨k + 1, by omega, by go_num, by rw [HS.out, g0, g1]; simp⟩
            case measure => simp [intOf]; omega
          · go_wp2_with (first | (go_at_call_of 25 (Value.float .f64 (f k).1); refine same_mono (q1 _) ?_) | (go_at_call_of 25 (Value.float .f64 (f k).2); refine same_mono (q2 _) ?_) | (go_at_call 24; refine same_mono (nearest_any _ _) ?_))
            go_round
            case rel => exact ⟨k + 1, by omega, by go_num, by rw [HS.out, g0, g1]; simp⟩
            case measure => simp [intOf]; omega
      · have hs := sureF_succ f m k
        have hok : okF f m k = quarterB (f k).1 := by unfold okF; rw [if_neg hkm]
        rw [hok, ← want_eq] at hs
        have HS := (show Hid _ from hs)
        clear hs hok
        have d4 : ¬ ((k : Int) < m) := by omega
        cases g0 : sureF f m k
        · go_wp2_with (first | (go_at_call_of 25 (Value.float .f64 (f k).1); refine same_mono (q1 _) ?_) | (go_at_call_of 25 (Value.float .f64 (f k).2); refine same_mono (q2 _) ?_))
          go_round
          case rel => exact ⟨k + 1, by omega, by go_num, by rw [HS.out, g0]; simp⟩
          case measure => simp [intOf]; omega
        · cases g1 : quarterB (f k).1
          · go_wp2_with (first | (go_at_call_of 25 (Value.float .f64 (f k).1); refine same_mono (q1 _) ?_) | (go_at_call_of 25 (Value.float .f64 (f k).2); refine same_mono (q2 _) ?_))
            go_round
            case rel => exact ⟨k + 1, by omega, by go_num, by rw [HS.out, g0, g1]; simp⟩
            case measure => simp [intOf]; omega
          · go_wp2_with (first | (go_at_call_of 25 (Value.float .f64 (f k).1); refine same_mono (q1 _) ?_) | (go_at_call_of 25 (Value.float .f64 (f k).2); refine same_mono (q2 _) ?_))
            go_round
            case rel => exact ⟨k + 1, by omega, by go_num, by rw [HS.out, g0, g1]; simp⟩
            case measure => simp [intOf]; omega
    · have e : k = n := by omega
      subst e
      go_wp2
      go_ret
      exact ⟨by simp, hfr⟩

end Go.Proofs.Ygctaf
