/-
  WALKS: law.roundAllIs at m = 0; law.RoundAllRight.
-/
import Derived.Test.YgctafRoundAllIs
import Derived.Test.YgctafOpen
namespace Go.Proofs.Ygctaf
open Go.RowKit

set_option maxHeartbeats 1000000 in
theorem roundAllIs_zero (b n cap : Nat) (f : Nat → Nat × Nat) (w : World) (hn : n ≤ 4096) (hf : Own CV w b n f) (h64 : ∀ i, i < n → (f i).1 < 2 ^ 64 ∧ (f i).2 < 2 ^ 64) :
    Calls Tafg.prog 34 #[.slice (some ⟨b, 0, none⟩) n cap, .int .i64 0] w fun e w' => e = .returned (.bool true) ∧ Frm [] w w' := by
  have HF : Hid (Own CV w b n f) := hf
  have H64 := (show Hid _ from h64)
  have hb := hf.1
  clear hf h64
  have d2 : decide ((n : Int) < 0) = false := by simp
  have hnil := fun w => run_neq_slice_nil_any (P := Tafg.prog) w 58 2 none 0 0 0 0 Tafg.underlying58
  go_enter Tafg.func34, Tafg.ntmps34
  go_wp2_with (first | (go_at_call 40; refine same_mono (roundAll_zero b n cap f _ hn HF.out) ?_))
  go_loop [4, 7, 8, 9, 10, 11] (fun _ s i _ _ _ => ∃ k : Nat, k ≤ n ∧ i = .int .i64 k ∧ s = .bool (sureF f 0 k)) (fun _ _ i _ _ _ => n - (intOf i).toNat)
  case atStart => exact ⟨0, Nat.zero_le _, rfl, rfl⟩
  case round =>
    obtain ⟨k, hk, rfl, rfl⟩ := hrel
    by_cases hlt : k < n
    · have c1 : w.cell? ⟨b, k, none⟩ = some (.complex .f64 (f k).1 (f k).2) := HF.out.cell hlt
      have q1 := lquarter_any (f k).1 (H64.out k hlt).1
      have q2 := lquarter_any (f k).2 (H64.out k hlt).2
      have hs := sureF_succ f 0 k
      have hok : okF f 0 k = quarterB (f k).1 := by unfold okF; rw [if_neg (by omega)]
      rw [hok, ← want_eq] at hs
      have HS := (show Hid _ from hs)
      clear hs hok
      have d4 : ¬ ((k : Int) < 0) := by omega
      cases g0 : sureF f 0 k
      · go_wp2_with (first | (go_at_call_of 25 (Value.float .f64 (f k).1); refine same_mono (q1 _) ?_) | (go_at_call_of 25 (Value.float .f64 (f k).2); refine same_mono (q2 _) ?_))
        go_round
        case rel => exact ⟨k + 1, by omega, by go_num, by rw [HS.out, g0]; simp⟩
        case measure => simp [intOf]; omega
      · cases g1 : quarterB (f k).1
        · go_wp2_with (first | (go_at_call_of 25 (Value.float .f64 (f k).1); refine same_mono (q1 _) ?_) | (go_at_call_of 25 (Value.float .f64 (f k).2); refine same_mono (q2 _) ?_))
          go_round
          case rel => exact ⟨k + 1, by omega, by go_num, by rw [HS.out, g0, g1]; simp⟩
          case measure => simp [intOf]; omega
        · go_wp2_with (first | (go_at_call_of 25 (Value.float .f64 (f k).1); refine same_mono (q1 _) ?_) | (go_at_call_of 25 (Value.float .f64 (f k).2); refine same_mono (q2 _) ?_))
          go_round
          case rel => exact ⟨k + 1, by omega, by go_num, by rw [HS.out, g0, g1]; simp⟩
          case measure => simp [intOf]; omega
    · have e : k = n := by omega
      subst e
      go_wp2
      go_ret
      exact ⟨by simp, Frm.refl _ _⟩

theorem roundAllIs_any (b n cap : Nat) (m : Int) (f : Nat → Nat × Nat) (w : World) (hn : n ≤ 4096) (hf : Own CV w b n f) (h64 : ∀ i, i < n → (f i).1 < 2 ^ 64 ∧ (f i).2 < 2 ^ 64) :
    Calls Tafg.prog 34 #[.slice (some ⟨b, 0, none⟩) n cap, .int .i64 m] w fun e w' => e = .returned (.bool true) ∧ Frm [] w w' := by
  by_cases h1 : m < 0 ∨ (n : Int) < m
  · exact roundAllIs_bad b n cap m w h1
  · obtain ⟨k, rfl⟩ : ∃ k : Nat, m = k := ⟨m.toNat, by omega⟩
    rcases Nat.eq_zero_or_pos k with h0 | h0
    · subst h0; exact roundAllIs_zero b n cap f w hn hf h64
    · exact roundAllIs_pos b n cap k f w h0 (by omega) hn hf h64

theorem pairF_lt (zs : Nat → Int) (n len : Nat) (hn : n ≤ len / 2) (h : ∀ i, i < len → 0 ≤ zs i ∧ zs i < 18446744073709551616) : ∀ i, i < n → (pairF zs i).1 < 2 ^ 64 ∧ (pairF zs i).2 < 2 ^ 64 := by
  intro i hi
  have h1 := h (2 * i) (by omega)
  have h2 := h (2 * i + 1) (by omega)
  unfold pairF
  constructor <;> simp <;> omega

theorem pairs_any (a : Option Addr) (len cap : Nat) (zs : Nat → Int) (w : World) (hlen : len * 8 ≤ 140737488351232) (hr : InRow .u64 w a len zs) :
    Calls Tafg.prog 33 #[.slice a len cap] w fun e w' =>
      e = .returned (.slice (some ⟨w.heap.size, 0, none⟩) (len / 2) (len / 2)) ∧ Own CV w' w.heap.size (len / 2) (pairF zs) ∧ Frm [] w w' := by
  rcases hr with rfl | ⟨b, off, rfl, hb, hr⟩
  · exact pairs_none a cap zs w
  · exact pairs_some b off len cap zs w hb hlen hr

set_option maxHeartbeats 1000000 in
theorem roundAllRight_any (a : Option Addr) (len cap : Nat) (m : Int) (zs : Nat → Int) (w : World) (hlen : len * 8 ≤ 140737488351232) (hr : InRow .u64 w a len zs) (h64 : ∀ i, i < len → 0 ≤ zs i ∧ zs i < 18446744073709551616) :
    Calls Tafg.prog 6 #[.slice a len cap, .int .i64 m] w fun e w' => e = .returned (.bool true) ∧ Frm [] w w' := by
  have hp := pairs_any a len cap zs
  obtain ⟨n, hn⟩ : ∃ n, n = len / 2 := ⟨_, rfl⟩
  rw [← hn] at hp
  have hlt := pairF_lt zs n len (by omega) h64
  have b1 : (n : Int) ≤ 9223372036854775807 := by omega
  have HLT := (show Hid _ from hlt)
  have HR := (show Hid (InRow .u64 w a len zs) from hr)
  have HL := (show Hid (len * 8 ≤ 140737488351232) from hlen)
  clear hlt h64 hn hr hlen
  by_cases hgt : 2048 < n
  · have g1 : (2048 : Int) < (n : Int) := by omega
    go_enter Tafg.func6, Tafg.ntmps6
    go_wp2_with (first | (go_at_call 33; refine (hp _ HL.out HR.out).mono ?_; rintro e w1 ⟨rfl, hown, hfr⟩) | (go_at_call 34; refine (roundAllIs_any _ 2048 _ _ (pairF zs) _ (by decide) (hown.less (by omega)) (fun i hi => HLT.out i (by omega))).mono ?_; rintro e w2 ⟨rfl, hfr2⟩))
    go_ret
    exact ⟨rfl, hfr.trans hfr2⟩
  · have g1 : ¬ (2048 : Int) < (n : Int) := by omega
    go_enter Tafg.func6, Tafg.ntmps6
    go_wp2_with (first | (go_at_call 33; refine (hp _ HL.out HR.out).mono ?_; rintro e w1 ⟨rfl, hown, hfr⟩) | (go_at_call 34; refine (roundAllIs_any _ _ _ _ (pairF zs) _ (by omega) hown HLT.out).mono ?_; rintro e w2 ⟨rfl, hfr2⟩))
    go_ret
    exact ⟨rfl, hfr.trans hfr2⟩

end Go.Proofs.Ygctaf
