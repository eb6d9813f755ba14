/-
  WALKS: law.floats, fftx.halved, fftx.half
-/
import Derived.Test.YgctafReal
import Derived.Test.YgctafW11
import Derived.Test.YgctafOpen
namespace Go.Proofs.Ygctaf
open Go.RowKit Ieee
attribute [local go_sem] run_store_complex run_store_float CV_eq FV_eq

def fltF (zs : Nat → Int) : Nat → Nat := fun i => (zs i).toNat

theorem twoF_ne : V 4611686018427387904 ≠ 0 := by rw [two_val.2]; exact Rat.ne_of_gt (p2_pos 1)
theorem halved_any {e : Int} (x : Nat × Nat) (hx : Bd e x) (w : World) :
    Calls Tafg.prog 95 #[CV x] w fun r w' => r = .returned (CV (chalf x)) ∧ w' = w := by
  have h1 := run_fdiv hx.re.num two_val.1 twoF_ne
  have h2 := run_fdiv hx.im.num two_val.1 twoF_ne
  obtain ⟨a, b⟩ := x
  unfold CV chalf
  dsimp only at *
  go_enter Tafg.func95, Tafg.ntmps95
  go_wp2
  go_ret
  exact ⟨rfl, rfl⟩

set_option maxHeartbeats 1000000 in
theorem half_any (tb m tcap : Nat) (T : Nat → Nat × Nat) (w : World) (hm : m ≤ 1024) (hT : Own CV w tb m T) :
    Calls Tafg.prog 94 #[.slice (some ⟨tb, 0, none⟩) m tcap] w fun r w' =>
      r = .returned (.slice (some ⟨w.heap.size, 0, none⟩) (m / 2) (m / 2)) ∧ Own CV w' w.heap.size (m / 2) (fun j => T (2 * j)) ∧ Frm [] w w' := by
  obtain ⟨n, hn⟩ : ∃ n, n = m / 2 := ⟨_, rfl⟩
  have hmk := make_c n (by omega)
  have hdiv : ((m : Int) / 2) = (n : Int) := by omega
  have hdiv2 : (m : Int).tdiv 2 = (n : Int) := by rw [Int.tdiv_eq_ediv_of_nonneg (by omega)]; omega
  rw [← hn]
  have hnm : 2 * n ≤ m := by omega
  have HT := hid hT
  have hts := hT.1
  clear hn hT
  go_enter Tafg.func94, Tafg.ntmps94
  go_wp2
  clear hdiv hdiv2
  go_loopw [4] (fun i wr => ∃ k : Nat, k ≤ n ∧ i = .int .i64 k ∧ Own CV wr w.heap.size n (fun j => if j < k then T (2 * j) else (0, 0)) ∧ Frm [] w wr) (fun i _ => n - (intOf i).toNat)
  case atStart => exact ⟨0, Nat.zero_le _, rfl, by simpa using Own.madeC, (Frm.refl _ _).alloc _⟩
  case round =>
    obtain ⟨k, hk, rfl, hown, hfr⟩ := hrel
    by_cases hlt : k < n
    · have c1 := (HT.out.frame hfr (by simp)).cell (i := 2 * k) (by omega)
      have c3 := hown.cell hlt
      have c4 := hown.free hlt
      have t1 : (2 * (k : Int)).toNat = 2 * k := by omega
      have b1 : (0 : Int) ≤ 2 * (k : Int) := by omega
      have b2 : 2 * (k : Int) < (m : Int) := by omega
      have st := hown.step (f := fun j => T (2 * j)) hlt rfl
      have HST := hid st
      have HFR := hid hfr
      clear st hown hfr
      go_wp2
      go_roundw
      case rel => exact ⟨k + 1, hlt, by go_num, HST.out, HFR.out.setCell (.inr (Nat.le_refl _)) _⟩
      case measure => simp [intOf]; omega
    · have HOW := hid (hown.full (by omega))
      have HFR := hid hfr
      clear hown hfr
      go_wp2
      go_ret
      exact ⟨rfl, HOW.out, HFR.out⟩

set_option maxHeartbeats 1000000 in
theorem floats_body (b off len cap n0 : Nat) (zs : Nat → Int) (w : World) (hb : b < w.heap.size) (hle : n0 ≤ len) (hcap : len ≤ cap) (hn0 : n0 ≤ 2048) (hlen : len * 8 ≤ 140737488351232) (hr : Rd (Value.int .u64) w b off len zs) :
    Calls Tafg.prog 47 #[.slice (some ⟨b, off, none⟩) len cap, .int .i64 (n0 : Int)] w fun e w' =>
      e = .returned (.slice (some ⟨w.heap.size, 0, none⟩) n0 n0) ∧ Own FV w' w.heap.size n0 (fltF zs) ∧ Frm [] w w' := by
  have hmk := make_f n0 (by omega)
  have HR := hid hr
  clear hr
  by_cases hgt : n0 < len
  · have d1 : (n0 : Int) < (len : Int) := by omega
    go_enter Tafg.func47, Tafg.ntmps47
    go_wp2
    go_loopw [6] (fun i wr => ∃ k : Nat, k ≤ n0 ∧ i = .int .i64 k ∧ Own FV wr w.heap.size n0 (fun j => if j < k then fltF zs j else 0) ∧ Frm [] w wr) (fun i _ => n0 - (intOf i).toNat)
    case atStart => exact ⟨0, Nat.zero_le _, rfl, by simpa using Own.madeF, (Frm.refl _ _).alloc _⟩
    case round =>
      obtain ⟨k, hk, rfl, hown, hfr⟩ := hrel
      by_cases hlt : k < n0
      · have c1 := (HR.out.frame hfr hb (by simp)) k (by omega)
        have c3 := hown.cell hlt
        have c4 := hown.free hlt
        have hf := f64_any (zs k)
        have st := hown.step (f := fltF zs) hlt rfl
        have HST := hid st
        have HFR := hid hfr
        clear st hown hfr
        go_wp2_with (first | (go_at_call 26; refine same_mono (hf _) ?_))
        go_roundw
        case rel => exact ⟨k + 1, hlt, by go_num, HST.out, HFR.out.setCell (.inr (Nat.le_refl _)) _⟩
        case measure => simp [intOf]; omega
      · have HOW := hid (hown.full (by omega))
        have HFR := hid hfr
        clear hown hfr
        go_wp2
        go_ret
        exact ⟨rfl, HOW.out, HFR.out⟩
  · have e' : n0 = len := by omega
    subst e'
    go_enter Tafg.func47, Tafg.ntmps47
    go_wp2
    go_loopw [6] (fun i wr => ∃ k : Nat, k ≤ n0 ∧ i = .int .i64 k ∧ Own FV wr w.heap.size n0 (fun j => if j < k then fltF zs j else 0) ∧ Frm [] w wr) (fun i _ => n0 - (intOf i).toNat)
    case atStart => exact ⟨0, Nat.zero_le _, rfl, by simpa using Own.madeF, (Frm.refl _ _).alloc _⟩
    case round =>
      obtain ⟨k, hk, rfl, hown, hfr⟩ := hrel
      by_cases hlt : k < n0
      · have c1 := (HR.out.frame hfr hb (by simp)) k (by omega)
        have c3 := hown.cell hlt
        have c4 := hown.free hlt
        have hf := f64_any (zs k)
        have st := hown.step (f := fltF zs) hlt rfl
        have HST := hid st
        have HFR := hid hfr
        clear st hown hfr
        go_wp2_with (first | (go_at_call 26; refine same_mono (hf _) ?_))
        go_roundw
        case rel => exact ⟨k + 1, hlt, by go_num, HST.out, HFR.out.setCell (.inr (Nat.le_refl _)) _⟩
        case measure => simp [intOf]; omega
      · have HOW := hid (hown.full (by omega))
        have HFR := hid hfr
        clear hown hfr
        go_wp2
        go_ret
        exact ⟨rfl, HOW.out, HFR.out⟩
end Go.Proofs.Ygctaf
