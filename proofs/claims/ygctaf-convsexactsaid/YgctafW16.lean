/-
  WALKS: fft.Inverse of one point, tw.Table(0), law.cut, law.integers, law.quarter
-/
import Derived.Test.YgctafConvLaw
namespace Go.Proofs.Ygctaf
open Ieee Go.RowKit
attribute [local go_sem] run_store_complex run_store_float CV_eq FV_eq

theorem and_mask20 (x : Int) : bits .and .i32 x 1048575 = x % 1048576 := by
  show IntKind.i32.wrap (((BitVec.ofInt 32 x) &&& (BitVec.ofInt 32 1048575)).toNat : Int) = _
  rw [BitVec.toNat_and, BitVec.toNat_ofInt, show (BitVec.ofInt 32 1048575).toNat = 2 ^ 20 - 1 from rfl, Nat.and_two_pow_sub_one_eq_mod, IntKind.wrap_i32]
  omega

theorem table_zero (w : World) : Calls Tafg.prog 17 #[.int .u8 0] w fun e w' => e = .returned (.slice none 0 0) ∧ w' = w := by
  go_enter Tafg.func17, Tafg.ntmps17
  go_wp2
  go_ret
  exact ⟨rfl, rfl⟩

theorem lawQuarter_any (x : Nat) (hx : x < 2 ^ 64) (w : World) :
    Calls Tafg.prog 25 #[.float .f64 x] w fun e w' => e = .returned (.bool (atMostB x (-2))) ∧ w' = w := by
  have h := atMost_any x hx (-2)
  go_enter Tafg.func25, Tafg.ntmps25
  go_wp2_with (first | (go_at_call 27; refine same_mono (h _) ?_))
  go_ret
  exact ⟨rfl, rfl⟩

theorem cut_any (n : Nat) (w : World) :
    Calls Tafg.prog 46 #[.int .i64 (n : Int)] w fun e w' => ∃ kk : Nat, e = .returned (.int .i64 ((kk : Int) - 1)) ∧ w' = w ∧ kk ≤ 12 ∧ (kk = 0 ∨ 2 ^ (kk - 1) ≤ n) := by
  go_enter Tafg.func46, Tafg.ntmps46
  go_wp2
  go_loop [3] (fun s => ∃ kk : Nat, kk ≤ 12 ∧ s = .int .i64 ((kk : Int) - 1) ∧ (kk = 0 ∨ 2 ^ (kk - 1) ≤ n)) (fun s => 20 - (intOf s + 1).toNat)
  case atStart => exact ⟨0, by omega, rfl, .inl rfl⟩
  case round =>
    obtain ⟨kk, hkk, rfl, hle⟩ := hrel
    have HLE := hid hle
    clear hle
    by_cases hlt : kk < 12
    · have d1 : (kk : Int) - 1 < 11 := by omega
      obtain ⟨pp, hpp⟩ : ∃ x, x = 2 ^ kk := ⟨_, rfl⟩
      have w1 := wrap_at (j := kk) (by omega) hpp
      have HPP := hid hpp
      clear hpp
      by_cases hm : pp ≤ n
      · have c1 : (pp : Int) ≤ (n : Int) := by omega
        go_wp2
        go_round
        case rel => exact ⟨kk + 1, by omega, by go_num, .inr (by rw [Nat.add_sub_cancel, ← HPP.out]; exact hm)⟩
        case measure => simp [intOf]; omega
      · have c1 : ¬ ((pp : Int) ≤ (n : Int)) := by omega
        go_wp2
        go_ret
        exact ⟨kk, rfl, rfl, hkk, HLE.out⟩
    · have e : kk = 12 := by omega
      subst e
      go_wp2
      go_ret
      exact ⟨12, rfl, rfl, hkk, HLE.out⟩

set_option maxHeartbeats 1000000 in
theorem integers_any (M n0 cap : Nat) (z : Nat → Int) (w : World) (hM : Own (Value.int .i32) w M n0 z) :
    Calls Tafg.prog 22 #[.slice (some ⟨M, 0, none⟩) n0 cap] w fun e w' =>
      (e = .returned (.tuple #[.slice none 0 0, .int .i64 (-1)]) ∧ w' = w) ∨
      ∃ k n : Nat, e = .returned (.tuple #[.slice (some ⟨w.heap.size, 0, none⟩) n n, .int .i64 (k : Int)]) ∧ k ≤ 11 ∧ n = 2 ^ k ∧ n ≤ n0 ∧
        Own CV w' w.heap.size n (fun i => (fint (z i), 0)) ∧ Frm [] w w' := by
  have hfi := floatOfInt_eq
  have hcut := cut_any n0 w
  have HM := hid hM
  clear hM
  go_enter Tafg.func22, Tafg.ntmps22
  go_wp2_with fail
  refine hcut.mono ?_
  rintro e w1 ⟨kk, rfl, rfl, hkk, hle⟩
  rcases Nat.eq_zero_or_pos kk with h0 | h0
  · subst h0
    clear hle
    go_wp2
    go_ret2
    exact .inl ⟨rfl, rfl⟩
  · obtain ⟨k, rfl⟩ : ∃ k, kk = k + 1 := ⟨kk - 1, by omega⟩
    obtain ⟨n, hn⟩ : ∃ n, n = 2 ^ k := ⟨_, rfl⟩
    have hnn : n ≤ n0 := by rw [hn]; rw [Nat.add_sub_cancel] at hle; omega
    have hb : n ≤ 2048 := by rw [hn]; exact Nat.pow_le_pow_right (by decide) (show k ≤ 11 by omega)
    have w2 := wrap_at (j := k) (by omega) hn
    have e1 : ((k + 1 : Nat) : Int) - 1 = (k : Int) := by omega
    have d1 : decide ((k : Int) < 0) = false := by simp
    have hmk := make_c n (by omega)
    have HN := hid hn
    clear hn hle hcut
    rw [e1]
    go_wp2
    go_loopw [4] (fun i wr => ∃ j : Nat, j ≤ n ∧ i = .int .i64 j ∧ Own CV wr w1.heap.size n (fun i => if i < j then (fint (z i), 0) else (0, 0)) ∧ Frm [] w1 wr) (fun i _ => n - (intOf i).toNat)
    case atStart => exact ⟨0, Nat.zero_le _, rfl, by simpa using Own.madeC, (Frm.refl _ _).alloc _⟩
    case round =>
      obtain ⟨j, hj, rfl, hown, hfr⟩ := hrel
      by_cases hlt : j < n
      · have c1 := (HM.out.frame hfr (by simp)).cell (show j < n0 by omega)
        obtain ⟨old, c3, c4⟩ := hown.get hlt
        have hst := hown.step hlt (v := .complex .f64 (fint (z j)) 0) rfl
        have HST := hid hst
        have HFR := hid hfr
        clear hst hown hfr w2
        go_wp2
        go_roundw
        case rel => exact ⟨j + 1, by omega, by go_num, HST.out, HFR.out.setCell (.inr (Nat.le_refl _)) _⟩
        case measure => simp [intOf]; omega
      · have HST := hid (hown.full (by omega))
        have HFR := hid hfr
        clear hown hfr w2
        go_wp2
        go_ret2
        exact .inr ⟨k, n, rfl, by omega, HN.out, hnn, HST.out, HFR.out⟩

set_option maxHeartbeats 1000000 in
theorem inverse_one (b cap tcap n : Nat) (e : Int) (ta : Option Addr) (T f : Nat → Nat × Nat) (w : World) (hn : n = 1) (hf0 : Own CV w b n f) (bF : Bd e (f 0)) :
    Calls Tafg.prog 20 #[.slice (some ⟨b, 0, none⟩) n cap, .slice ta 0 tcap] w fun e w' =>
      e = .returned (.bool true) ∧ Own CV w' b n (invF 0 T f) ∧ Frm [b] w w' := by
  have hfit : ∀ w, Calls Tafg.prog 74 #[.int .i64 (n : Int), .int .i64 0] w fun e w' => e = .returned (.bool true) ∧ w' = w := by subst hn; exact fits_one
  have hfw : ∀ w (ta : Option Addr) tcap, Own CV w b n f → Calls Tafg.prog 23 #[.slice (some ⟨b, 0, none⟩) n cap, .slice ta 0 tcap] w fun e w' =>
      e = .returned (.bool true) ∧ Own CV w' b n (fwdF 0 (fun i => cconj (T i)) f) ∧ Frm [b] w w' ∧ w'.heap.size = w.heap.size := by
    subst hn; exact fun w ta tcap h => forward_one b cap tcap ta (fun i => cconj (T i)) f w h
  have hmk : ∀ w : World, (Instr.makeSlice 23 (.int .i64 0) (.int .i64 0)).run Tafg.prog w = .ok (.slice (some ⟨w.heap.size, 0, none⟩) 0 0) (w.alloc (.cells (madeCells #[Value.complex .f64 0 0] 0) 42)) := make_c 0 (by omega)
  have hfi := floatOfInt_eq (n : Int)
  have hnv := fint_pow_val 0 (by omega)
  have hn1 : ((2 ^ 0 : Nat) : Int) = (n : Int) := by omega
  rw [hn1] at hnv
  have hn0 : V (fint (n : Int)) ≠ 0 := by rw [hnv.2]; exact p2_ne _
  have hbn : n ≤ 1 := by omega
  have hz : ∀ a, a < n → fwdF 0 (fun i => cconj (T i)) f a = f 0 := by
    intro a ha
    have : a = 0 := by omega
    subst this; rfl
  have HZ := hid hz
  have HFW := hid hfw
  have HBF := hid bF
  have HFO := hid hf0
  have HN := hid hn
  have HNV := hid hnv
  have HN0 := hid hn0
  have HN1 := hid hn1
  have hbs := hf0.1
  clear hn hf0 hnv hn0 hn1 hfw hz bF
  go_enter Tafg.func20, Tafg.ntmps20
  go_wp2_with (first | (go_at_call 74; refine same_mono (hfit _) ?_))
  go_loopw [6] (fun i wr => i = .int .i64 0 ∧ Frm [] w wr) (fun i _ => 0)
  case atStart => exact ⟨rfl, (Frm.refl _ _).alloc _⟩
  case round =>
    obtain ⟨rfl, hfr⟩ := hrel
    have hx := HFO.out.frame hfr (by simp)
    have hw := HFW.out wr (some ⟨w.heap.size, 0, none⟩) 0 hx
    have HW := hid hw
    have HFR := hid hfr
    clear hw hx hfr HFW
    go_wp2_with (first | (go_at_call 23; refine Calls.mono HW.out ?_; rintro e w1 ⟨rfl, hown, hfr1, hsz⟩))
    have hfr2 : Frm [b] w w1 := HFR.out.seq hfr1 (by simp) (by simp)
    clear hfr1 hsz HFR HW
    go_loopw [8] (fun i wr => ∃ k2 : Nat, k2 ≤ n ∧ i = .int .i64 k2 ∧ Own CV wr b n (fun j => if j < k2 then invF 0 T f j else fwdF 0 (fun i => cconj (T i)) f j) ∧ Frm [b] w wr) (fun i _ => n - (intOf i).toNat)
    case atStart => exact ⟨0, Nat.zero_le _, rfl, by simpa using hown, hfr2⟩
    case round =>
      obtain ⟨j, hj, rfl, hown3, hfr3⟩ := hrel
      by_cases hlj : j < n
      · have c1 := hown3.cell hlj
        rw [if_neg (Nat.lt_irrefl j), HZ.out j hlj] at c1
        have c2 := hown3.free hlj
        have bz := HBF.out
        have r1 := run_fdiv bz.re.num HNV.out.1 HN0.out
        have r2 := run_fdiv bz.im.num HNV.out.1 HN0.out
        have hst := hown3.step hlj (v := CV (invF 0 T f j)) rfl
        have hiv : invF 0 T f j = (fdiv (f 0).1 (fint (n : Int)), fdiv (f 0).2 (fint (n : Int))) := by
          unfold invF cdivn; rw [HZ.out j hlj, HN1.out]
        rw [hiv] at hst
        have HST := hid hst
        have HFR := hid hfr3
        clear hst hown3 hfr3 hown hfr2 bz hiv
        go_wp2
        go_region
        go_wp2
        go_roundw
        case rel => exact ⟨j + 1, by omega, by go_num, HST.out.drew, (HFR.out.setCell (.inl (by simp)) _).drew⟩
        case measure => simp [intOf]; omega
      · have HST := hid (hown3.full (by omega))
        have HFR := hid hfr3
        clear hown3 hfr3 hown hfr2
        go_wp2
        go_ret
        exact ⟨rfl, HST.out, HFR.out⟩
end Go.Proofs.Ygctaf
