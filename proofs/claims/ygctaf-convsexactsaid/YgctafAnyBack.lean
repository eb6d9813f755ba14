/-
  law.AnyBack
-/
import Derived.Test.YgctafAnyLaw
namespace Go.Proofs.Ygctaf
open Ieee Go.RowKit
attribute [local go_sem] run_store_complex run_store_float CV_eq FV_eq

theorem any_lvl (n : Nat) (hn : n ≤ 1024) : ∃ q, q ≤ 10 ∧ IsLvl (2 * n - 1) q := isLvl_ex (2 * n - 1) 10 (by omega)

set_option maxHeartbeats 2000000 in
theorem anyBack_any (a : Option Addr) (n cap : Nat) (zs : Nat → Int) (w : World) (hn0 : n * 4 ≤ 140737488351232) (hr : InRow .i32 w a n zs) :
    Calls Tafg.prog 13 #[.slice a n cap] w fun e w' => e = .returned (.bool true) ∧ Frm [] w w' := by
  have HR := hid hr
  clear hr
  go_enter Tafg.func13, Tafg.ntmps13
  rcases Nat.eq_zero_or_pos n with h0 | h0
  · subst h0
    go_wp2
    go_ret
    exact ⟨rfl, Frm.refl _ _⟩
  by_cases hn : 1024 < n
  · go_wp2
    go_ret
    exact ⟨rfl, Frm.refl _ _⟩
  have hn : n ≤ 1024 := by omega
  have hmk := make_c n (by omega)
  have hfi := floatOfInt_eq
  obtain ⟨q, hq, hlv⟩ := any_lvl n hn
  have hnN : 2 * n ≤ 2 ^ (q + 1) + 1 := by have := hlv.1; omega
  have hzz : ∀ i, i < n → 0 ≤ maskF zs i ∧ maskF zs i < 1048576 := fun i _ => by unfold maskF; omega
  have HLV := hid hlv
  have HNN := hid hnN
  have HZZ := hid hzz
  clear hlv hnN hzz
  have p4 : ((n : Int) == 0) = false := by simp; omega
  have p5 : decide ((1024 : Int) < (n : Int)) = false := by simp; omega
  go_wp2
  go_loopw [5] (fun i wr => ∃ j : Nat, j ≤ n ∧ i = .int .i64 j ∧ Own CV wr w.heap.size n (fun i => if i < j then intF (maskF zs) i else (0, 0)) ∧ Frm [] w wr) (fun i _ => n - (intOf i).toNat)
  case atStart => exact ⟨0, Nat.zero_le _, rfl, by simpa using Own.madeC, (Frm.refl _ _).alloc _⟩
  case round =>
    obtain ⟨j, hj, rfl, hown, hfr⟩ := hrel
    by_cases hlt : j < n
    · rcases HR.out with h0 | ⟨b, off, rfl, hb, hrd⟩
      · omega
      have c1 : wr.cell? ⟨b, off + j, none⟩ = some (.int .i32 (zs j)) := (hrd.frame hfr hb (by simp)) j hlt
      obtain ⟨old, c3, c4⟩ := hown.get hlt
      have hst := hown.step hlt (v := .complex .f64 (fint (zs j % 1048576)) 0) rfl
      have hand := and_mask20 (zs j)
      have HST := hid hst
      have HFR := hid hfr
      clear hst hown hfr hrd HR
      go_wp2
      go_roundw
      case rel => exact ⟨j + 1, by omega, by go_num, HST.out, HFR.out.setCell (.inr (Nat.le_refl _)) _⟩
      case measure => simp [intOf]; omega
    · have hX := hown.full (by omega)
      have bF : ∀ i, i < n → Bd 20 (intF (maskF zs) i) := fun i hi => intF_bd (HZZ.out i hi)
      have HBX := hid (blF_bd hq HNN.out (e := 20) (by decide) (by decide) bF (fun i _ => chF_bd (j := i) h0 hn))
      have HC1 := hid (forwardAny_any w.heap.size n n q 20 (intF (maskF zs)) wr h0 hn hq HLV.out hX (by decide) (by decide) bF)
      have HFR := hid hfr
      clear hX hown hfr bF
      go_wp2_with fail
      refine Calls.mono HC1.out ?_
      rintro e w1 ⟨B1, rfl, hB1, hX1, hfr1⟩
      have HC2 := hid (inverseAny_any B1 n n q 231 (blF q n (intF (maskF zs)) (chF n)) w1 h0 hn hq HLV.out hX1 (by decide) (by decide) HBX.out)
      have HFR1 := hid (HFR.out.trans hfr1)
      clear hX1 hfr1 HC1 HFR
      go_wp2_with fail
      refine Calls.mono HC2.out ?_
      rintro e w2 ⟨B2, rfl, hB2, hX2, hfr2⟩
      have HFR2 := hid (HFR1.out.trans hfr2)
      obtain ⟨R, hR⟩ : ∃ R, R = iaF q n (blF q n (intF (maskF zs)) (chF n)) (chF n) := ⟨_, rfl⟩
      have hnear := fun l hl => anyBack_near h0 hn hq HNN.out HZZ.out l hl
      rw [← hR] at hnear hX2
      have HNEAR := hid hnear
      have HX2 := hid hX2
      clear hR hnear hX2 hfr2 HFR1 HC2 HBX HZZ HLV HNN
      go_wp2
      go_loopw [2, 7, 8, 9] (fun _ i _ _ wl => ∃ j : Nat, j ≤ n ∧ i = .int .i64 j ∧ Own CV wl B2 n R ∧ Frm [] w wl) (fun _ i _ _ _ => n - (intOf i).toNat)
      case atStart => exact ⟨0, Nat.zero_le _, rfl, HX2.out, HFR2.out⟩
      case round =>
        obtain ⟨j2, hj2, rfl, hx5, hfr5⟩ := hrel
        by_cases hlj : j2 < n
        · rcases HR.out with h0 | ⟨b, off, rfl, hb, hrd⟩
          · omega
          have c1 := hx5.cell hlj
          have c2 : wr.cell? ⟨b, off + j2, none⟩ = some (.int .i32 (zs j2)) := (hrd.frame hfr5 hb (by simp)) j2 hlj
          obtain ⟨g1, g2, g3⟩ := HNEAR.out j2 hlj
          have q1 := nearest_any (R j2).1
          rw [g1] at q1
          have q2 := lawQuarter_any (R j2).2 g3
          rw [g2] at q2
          have hand := and_mask20 (zs j2)
          have z1 : 0 ≤ maskF zs j2 ∧ maskF zs j2 < 1048576 := by unfold maskF; omega
          have z2 := z1.1
          have z3 := z1.2
          have ev : zs j2 % 1048576 = maskF zs j2 := rfl
          rw [ev] at hand
          have HX5 := hid hx5
          have HFR5 := hid hfr5
          clear hx5 hfr5 g1 g2 g3 z1 ev hrd HR
          generalize maskF zs j2 = y at *
          go_wp2_with (first | (go_at_call 24; refine same_mono (q1 _) ?_) | (go_at_call 25; refine same_mono (q2 _) ?_))
          go_roundw
          case rel => exact ⟨j2 + 1, by omega, by go_num, HX5.out, HFR5.out⟩
          case measure => simp [intOf]; omega
        · have HFR5 := hid hfr5
          clear hx5 hfr5
          go_wp2
          go_ret
          exact ⟨rfl, HFR5.out⟩
end Go.Proofs.Ygctaf
