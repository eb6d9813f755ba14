/-
  WALKS: fft.RoundAll.
-/
import Derived.Test.YgctafW2
import Derived.Test.YgctafW4
import Derived.Test.YgctafPairs
namespace Go.Proofs.Ygctaf
open Go.RowKit
attribute [local go_sem] run_store_complex run_store_float

/-- Place k is sure. -/
def okF (f : Nat → Nat × Nat) (m k : Nat) : Bool := if k < m then (nearF (f k).1).2 else quarterB (f k).1
def sureF (f : Nat → Nat × Nat) (m : Nat) : Nat → Bool
  | 0 => true
  | k + 1 => sureF f m k && (okF f m k && quarterB (f k).2)
theorem sureF_succ (f : Nat → Nat × Nat) (m k : Nat) : sureF f m (k + 1) = (sureF f m k && (okF f m k && quarterB (f k).2)) := rfl

theorem roundAll_bad (b n cap : Nat) (m : Int) (w : World) (hm : m < 0 ∨ (n : Int) < m) :
    Calls Tafg.prog 40 #[.slice (some ⟨b, 0, none⟩) n cap, .int .i64 m] w fun e w' => e = .returned (.tuple #[.slice none 0 0, .bool false]) ∧ w' = w := by
  by_cases h : m < 0
  · have h' : decide (m < 0) = true := by simpa using h
    clear hm
    go_enter Tafg.func40, Tafg.ntmps40
    go_wp2
    go_ret2
    exact ⟨rfl, rfl⟩
  · have h' : decide (m < 0) = false := by simpa using h
    have h2 : (n : Int) < m := by omega
    clear hm
    go_enter Tafg.func40, Tafg.ntmps40
    go_wp2
    go_ret2
    exact ⟨rfl, rfl⟩

set_option maxHeartbeats 1000000 in
theorem roundAll_pos (b n cap m : Nat) (f : Nat → Nat × Nat) (w : World) (h0 : 0 < m) (hmn : m ≤ n) (hn : n ≤ 4096) (hf : Own CV w b n f) :
    Calls Tafg.prog 40 #[.slice (some ⟨b, 0, none⟩) n cap, .int .i64 (m : Int)] w fun e w' =>
      e = .returned (.tuple #[.slice (some ⟨w.heap.size, 0, none⟩) m m, .bool (sureF f m n)]) ∧ Own (Value.int .i64) w' w.heap.size m (fun i => (nearF (f i).1).1) ∧ Frm [] w w' := by
  have hmk := make_i m (by omega)
  have hb := hf.1
  have d1 : decide ((m : Int) < 0) = false := by simp
  have d2 : ¬ ((n : Int) < m) := by omega
  have d3 : (0 : Int) < m := by omega
  have HF : Hid (Own CV w b n f) := hf
  clear hf
  go_enter Tafg.func40, Tafg.ntmps40
  go_wp2
  go_loopw [5, 6, 7] (fun s i _ wr => ∃ k : Nat, k ≤ n ∧ i = .int .i64 k ∧ s = .bool (sureF f m k) ∧ Own (Value.int .i64) wr w.heap.size m (fun j => if j < k then (nearF (f j).1).1 else 0) ∧ Frm [] w wr) (fun _ i _ _ => n - (intOf i).toNat)
  case atStart => exact ⟨0, Nat.zero_le _, rfl, rfl, by simpa using Own.made, (Frm.refl _ _).alloc _⟩
  case round =>
    obtain ⟨k, hk, rfl, rfl, hown, hfr⟩ := hrel
    by_cases hlt : k < n
    · have c1 : wr.cell? ⟨b, k, none⟩ = some (.complex .f64 (f k).1 (f k).2) := (HF.out.frame hfr (by simp)).cell hlt
      by_cases hkm : k < m
      · obtain ⟨old, c3⟩ : ∃ old, wr.cell? ⟨w.heap.size, k, none⟩ = some old := ⟨_, hown.cell hkm⟩
        have c4 := hown.free hkm
        have c5 : ∀ v, (wr.setCell ⟨w.heap.size, k, none⟩ v).cell? ⟨b, k, none⟩ = some (.complex .f64 (f k).1 (f k).2) := fun v => by rw [World.cell?_setCell_other _ _ _ _ (by intro h'; injection h' with h1; omega)]; exact c1
        have hs := sureF_succ f m k
        have hok : okF f m k = (nearF (f k).1).2 := by unfold okF; rw [if_pos hkm]
        rw [hok] at hs
        have HS := (show Hid _ from hs)
        clear hs hok
        have hst := hown.step hkm rfl
        have HST := (show Hid _ from hst)
        clear hst
        cases g1 : (nearF (f k).1).2
        · go_wp2_with (first | (go_at_call 80; refine (quarter_any _ _).mono ?_; rintro e w' ⟨rfl, rfl⟩) | (go_at_call 24; refine (nearest_any _ _).mono ?_; rintro e w' ⟨rfl, rfl⟩))
          go_roundw
          case rel => 
            refine ⟨k + 1, by omega, by go_num, by rw [HS.out, g1]; simp, HST.out, hfr.setCell (.inr (Nat.le_refl _)) _⟩
          case measure => simp [intOf]; omega
        · cases g2 : quarterB (f k).2
          · go_wp2_with (first | (go_at_call 80; refine (quarter_any _ _).mono ?_; rintro e w' ⟨rfl, rfl⟩) | (go_at_call 24; refine (nearest_any _ _).mono ?_; rintro e w' ⟨rfl, rfl⟩))
            go_roundw
            case rel => 
              refine ⟨k + 1, by omega, by go_num, by rw [HS.out, g1, g2]; simp, HST.out, hfr.setCell (.inr (Nat.le_refl _)) _⟩
            case measure => simp [intOf]; omega
          · go_wp2_with (first | (go_at_call 80; refine (quarter_any _ _).mono ?_; rintro e w' ⟨rfl, rfl⟩) | (go_at_call 24; refine (nearest_any _ _).mono ?_; rintro e w' ⟨rfl, rfl⟩))
            go_roundw
            case rel => 
              refine ⟨k + 1, by omega, by go_num, by rw [HS.out, g1, g2]; simp, HST.out, hfr.setCell (.inr (Nat.le_refl _)) _⟩
            case measure => simp [intOf]; omega
      · have hs := sureF_succ f m k
        have hok : okF f m k = quarterB (f k).1 := by unfold okF; rw [if_neg hkm]
        rw [hok] at hs
        have HS := (show Hid _ from hs)
        clear hs hok
        have hst : Own (Value.int .i64) wr w.heap.size m (fun j => if j < k + 1 then (nearF (f j).1).1 else 0) := hown.congr fun i hi => by rw [if_pos (by omega), if_pos (by omega)]
        have HST := (show Hid _ from hst)
        clear hst
        have d4 : ¬ ((k : Int) < m) := by omega
        cases g1 : quarterB (f k).1
        · go_wp2_with (first | (go_at_call 80; refine (quarter_any _ _).mono ?_; rintro e w' ⟨rfl, rfl⟩) | (go_at_call 24; refine (nearest_any _ _).mono ?_; rintro e w' ⟨rfl, rfl⟩))
          go_roundw
          case rel => 
            refine ⟨k + 1, by omega, by go_num, by rw [HS.out, g1]; simp, HST.out, hfr⟩
          case measure => simp [intOf]; omega
        · cases g2 : quarterB (f k).2
          · go_wp2_with (first | (go_at_call 80; refine (quarter_any _ _).mono ?_; rintro e w' ⟨rfl, rfl⟩) | (go_at_call 24; refine (nearest_any _ _).mono ?_; rintro e w' ⟨rfl, rfl⟩))
            go_roundw
            case rel => 
              refine ⟨k + 1, by omega, by go_num, by rw [HS.out, g1, g2]; simp, HST.out, hfr⟩
            case measure => simp [intOf]; omega
          · go_wp2_with (first | (go_at_call 80; refine (quarter_any _ _).mono ?_; rintro e w' ⟨rfl, rfl⟩) | (go_at_call 24; refine (nearest_any _ _).mono ?_; rintro e w' ⟨rfl, rfl⟩))
            go_roundw
            case rel => 
              refine ⟨k + 1, by omega, by go_num, by rw [HS.out, g1, g2]; simp, HST.out, hfr⟩
            case measure => simp [intOf]; omega
    · have e : k = n := by omega
      subst e
      go_wp2
      go_ret2
      exact ⟨rfl, hown.full (by omega), hfr⟩
end Go.Proofs.Ygctaf
