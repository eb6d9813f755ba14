/-
  law.BackExact
-/
import Derived.Test.YgctafW16
namespace Go.Proofs.Ygctaf
open Ieee Go.RowKit
attribute [local go_sem] run_store_complex run_store_float CV_eq FV_eq

def intF (z : Nat → Int) : Nat → Nat × Nat := fun i => (fint (z i), 0)

theorem intF_bd {z : Nat → Int} {i : Nat} (h : 0 ≤ z i ∧ z i < 1048576) : Bd 20 (intF z i) := ⟨B1.int (e := 20) (by omega) (by decide), B1.zero 20⟩
theorem intF_cv {z : Nat → Int} {i : Nat} (h : 0 ≤ z i ∧ z i < 1048576) : cv (intF z i) = rC (z i) := cv_int (by omega)

theorem back_right {k : Nat} {z : Nat → Int} (hk : k ≤ 11) (hz : ∀ i, i < 2 ^ k → 0 ≤ z i ∧ z i < 1048576) (l : Nat) (hl : l < 2 ^ k) :
    Bd 153 (invF k (tabF k) (fwdF k (tabF k) (intF z)) l) ∧ Len ((cv (invF k (tabF k) (fwdF k (tabF k) (intF z)) l)).sub (rC (z l))) (1/8) := by
  rcases Nat.eq_zero_or_pos k with h0 | h0
  · subst h0
    have e0 : l = 0 := by omega
    subst e0
    have hb := intF_bd (hz 0 hl)
    have e1 : invF 0 (tabF 0) (fwdF 0 (tabF 0) (intF z)) 0 = cdivn (2 ^ 0) (intF z 0) := rfl
    rw [e1]
    refine ⟨(hb.divn 0 (by omega) (by decide) (by decide)).mono (by decide), ?_⟩
    have hv := intF_cv (hz 0 hl)
    have hlen := rC_len (n := z 0) (B := 1048576) (by have := hz 0 hl; omega)
    have es : Cx.scale (p2 (-((0 : Nat) : Int))) (cv (intF z 0)) = rC (z 0) := by
      rw [hv]; unfold Cx.scale rC
      refine Cx.eq ?_ ?_
      · show p2 0 * _ = _; rw [p2_zero, Rat.one_mul]
      · show p2 0 * (0 : Rat) = 0; rw [Rat.mul_zero]
    have h := divn_err (k := 0) (L := 1048576) (by omega) (by decide) (by decide) hb (by decide +kernel) (by rw [es]; exact hlen.mono (by decide +kernel))
    rw [es] at h
    exact h.mono (by decide +kernel)
  · have hF : ∀ i, i < 2 ^ k → Bd 20 (intF z i) := fun i hi => intF_bd (hz i hi)
    have hT : ∀ i, i < 2 ^ (k - 1) → Bd 1 (tabF k i) := fun i hi => tab_bd k (k - 1) i h0 hk (by omega) hi
    have hkk : 2 ^ k = 2 * 2 ^ (k - 1) := by rw [← Nat.pow_succ']; congr 1; omega
    have hG : ∀ i, i < 2 ^ k → Bd 86 (fwdF k (tabF k) (intF z) i) := fun i hi => fwdF_bd hk (by decide) (by decide) (.inr hkk) hT hF i hi
    have hR := invF_bd (e := 86) hk (by decide) (by decide) (.inr hkk) hT hG l hl
    refine ⟨hR.mono (by decide), ?_⟩
    have hlen : ∀ i, i < 2 ^ k → Len (cv (intF z i)) (p2 20) := fun i hi => by
      rw [intF_cv (hz i hi)]
      have := hz i hi
      exact (rC_len (n := z i) (B := 1048576) (by omega)).mono (by decide +kernel)
    have hP : p2 (k : Int) ≤ p2 11 := p2_le (by omega)
    have hfw := fun j (hj : j < 2 ^ k) => fwd_right h0 hk (by decide) (by decide) hF (p2_le (by decide)) hlen j hj
    have hdel : p2 (-43) * (p2 (k : Int) * p2 20) ≤ p2 (-12) := by
      have e : p2 (-12) = p2 (-43) * (p2 11 * p2 20) := by decide +kernel
      rw [e]
      exact Rat.mul_le_mul_of_nonneg_left (Rat.mul_le_mul_of_nonneg_right hP (p2_nonneg _)) (p2_nonneg _)
    have hLz : ∀ j, j < 2 ^ k → Len (cv (fwdF k (tabF k) (intF z) j)) (p2 32) := fun j hj => by
      have a := Len.of_sub ((hfw j hj).mono hdel) (dft_len (zeK_unit k) hlen j)
      rw [← p2_nat] at a
      refine a.mono ?_
      have := Rat.mul_le_mul_of_nonneg_right hP (p2_nonneg 20)
      have e : p2 (-12) + p2 11 * p2 20 ≤ p2 32 := by decide +kernel
      grind
    have fin := inv_right (c := fun i => cv (intF z i)) h0 hk (by decide) (by decide) hG (p2_le (by decide)) hLz hlen (fun j hj => (hfw j hj).mono hdel) l hl
    rw [intF_cv (hz l hl)] at fin
    exact fin.mono (by decide +kernel)

theorem back_near {k : Nat} {z : Nat → Int} (hk : k ≤ 11) (hz : ∀ i, i < 2 ^ k → 0 ≤ z i ∧ z i < 1048576) (l : Nat) (hl : l < 2 ^ k) :
    nearF (invF k (tabF k) (fwdF k (tabF k) (intF z)) l).1 = (z l, true) ∧ atMostB (invF k (tabF k) (fwdF k (tabF k) (intF z)) l).2 (-2) = true ∧ (invF k (tabF k) (fwdF k (tabF k) (intF z)) l).2 < 2 ^ 64 := by
  obtain ⟨hb, h⟩ := back_right hk hz l hl
  obtain ⟨g1, g2⟩ := h.parts
  have hzl := hz l hl
  refine ⟨nearF_of_near hb.re.num g1 (by omega), ?_, hb.im.lt⟩
  rw [atMostB_iff _ hb.im.lt]
  refine ⟨hb.im.num, ?_⟩
  have g3 : (V (invF k (tabF k) (fwdF k (tabF k) (intF z)) l).2 - 0).abs ≤ 1/8 := g2
  rw [show V (invF k (tabF k) (fwdF k (tabF k) (intF z)) l).2 - 0 = V (invF k (tabF k) (fwdF k (tabF k) (intF z)) l).2 from by grind] at g3
  exact Rat.le_trans g3 (by decide +kernel)

theorem Tafg.info21 : (Tafg.prog.info? 21).map (fun i => (i.zero, i.size, i.bytes)) = some (some (.int .i32 0), 1, 4) := by kernel_rfl
theorem make_i32 (n : Nat) (h : n * 4 ≤ 281474976710656) (w : World) :
    (Instr.makeSlice 37 (.int .i64 (n : Int)) (.int .i64 (n : Int))).run Tafg.prog w = .ok (.slice (some ⟨w.heap.size, 0, none⟩) n n) (w.alloc (.cells (madeCells #[Value.int .i32 0] n) 21)) := by
  obtain ⟨i0, hi, hz0, hz1, hz2⟩ := info_parts Tafg.info21
  have := run_make (P := Tafg.prog) w 37 21 i0 _ Tafg.underlying37 hi hz0 .i64 .i64 n n (by omega) (by omega) (by rw [hz2]; omega) (by omega)
  rw [this, hz1, Nat.mul_one]
  rfl

theorem forward_one' (b cap tcap n : Nat) (ta : Option Addr) (T f : Nat → Nat × Nat) (w : World) (hn : n = 1) (hf0 : Own CV w b n f) :
    Calls Tafg.prog 23 #[.slice (some ⟨b, 0, none⟩) n cap, .slice ta 0 tcap] w fun e w' =>
      e = .returned (.bool true) ∧ Own CV w' b n (fwdF 0 T f) ∧ Frm [b] w w' ∧ w'.heap.size = w.heap.size := by
  subst hn; exact forward_one b cap tcap ta T f w hf0

def maskF (zs : Nat → Int) : Nat → Int := fun i => zs i % 1048576

set_option maxHeartbeats 2000000 in
theorem backExact_any (a : Option Addr) (n0 cap : Nat) (zs : Nat → Int) (w : World) (hn0 : n0 * 4 ≤ 140737488351232) (hr : InRow .i32 w a n0 zs) :
    Calls Tafg.prog 4 #[.slice a n0 cap] w fun e w' => e = .returned (.bool true) ∧ Frm [] w w' := by
  have hmk := make_i32 n0 (by omega)
  have HR := hid hr
  clear hr
  go_enter Tafg.func4, Tafg.ntmps4
  go_wp2
  go_loopw [4] (fun i wr => ∃ j : Nat, j ≤ n0 ∧ i = .int .i64 j ∧ Own (Value.int .i32) wr w.heap.size n0 (fun i => if i < j then maskF zs i else 0) ∧ Frm [] w wr) (fun i _ => n0 - (intOf i).toNat)
  case atStart => exact ⟨0, Nat.zero_le _, rfl, by simpa using Own.made (enc := Value.int .i32) (z := (0 : Int)), (Frm.refl _ _).alloc _⟩
  case round =>
    obtain ⟨j, hj, rfl, hown, hfr⟩ := hrel
    by_cases hlt : j < n0
    · rcases HR.out with h0 | ⟨b, off, rfl, hb, hrd⟩
      · omega
      have c1 : wr.cell? ⟨b, off + j, none⟩ = some (.int .i32 (zs j)) := (hrd.frame hfr hb (by simp)) j hlt
      obtain ⟨old, c3, c4⟩ := hown.get hlt
      have hst := hown.step hlt (v := .int .i32 (zs j % 1048576)) rfl
      have hand := and_mask20 (zs j)
      have HST := hid hst
      have HFR := hid hfr
      clear hst hown hfr hrd HR
      go_wp2
      go_roundw
      case rel => exact ⟨j + 1, by omega, by go_num, HST.out, HFR.out.setCell (.inr (Nat.le_refl _)) _⟩
      case measure => simp [intOf]; omega
    · have hM := hown.full (by omega)
      have hint := integers_any w.heap.size n0 n0 (maskF zs) wr hM
      have HM := hid hM
      have HINT := hid hint
      have HFR := hid hfr
      have hs0 := hfr.size
      have hms := hM.1
      clear hM hint hown hfr
      go_wp2_with fail
      refine Calls.mono HINT.out ?_
      rintro e w1 (⟨rfl, rfl⟩ | ⟨k, n, rfl, hk, hn, hnn, hX, hfr1⟩)
      · go_wp2
        go_ret
        exact ⟨rfl, HFR.out⟩
      · have hzz : ∀ i, i < 2 ^ k → 0 ≤ maskF zs i ∧ maskF zs i < 1048576 := fun i _ => by unfold maskF; omega
        have hnear := back_near hk hzz
        rw [← hn] at hnear
        have hb2 : n ≤ 2048 := by rw [hn]; exact Nat.pow_le_pow_right (by decide) hk
        have hfr2 := HFR.out.trans hfr1
        have hM1 := HM.out.frame hfr1 (by simp)
        have hxs := hX.1
        -- the tail, once the transform is back
        obtain ⟨R, hR⟩ : ∃ R, R = invF k (tabF k) (fwdF k (tabF k) (intF (maskF zs))) := ⟨_, rfl⟩
        rw [← hR] at hnear
        have HNEAR := hid hnear
        have HRR := hid hR
        have hXi : Own CV w1 wr.heap.size n (intF (maskF zs)) := hX.congr fun i _ => by unfold intF; rfl
        have HX := hid hXi
        have HFR2 := hid hfr2
        have HM1 := hid hM1
        have HN := hid hn
        have HZZ := hid hzz
        have hs1 := hfr1.size
        clear hR hnear hX hXi hfr2 hM1 hn hzz hfr1 HINT HM HFR HR
        rcases Nat.eq_zero_or_pos k with h0 | h0
        · subst h0
          have HN1 := hid (show n = 1 from HN.out)
          go_wp2_with fail
          refine (table_zero _).mono ?_
          rintro e w2 ⟨rfl, rfl⟩
          go_wp2_with fail
          refine (forward_one' wr.heap.size n 0 n none (tabF 0) (intF (maskF zs)) _ HN1.out HX.out).mono ?_
          rintro e w3 ⟨rfl, hG, hfr3, hsz3⟩
          go_wp2_with fail
          refine (inverse_one wr.heap.size n 0 n 20 none (tabF 0) (fwdF 0 (tabF 0) (intF (maskF zs))) w3 HN1.out hG (intF_bd (HZZ.out 0 (by decide)))).mono ?_
          rintro e w4 ⟨rfl, hX4, hfr4⟩
          have hfr34 := hfr3.trans hfr4
          rw [← HRR.out] at hX4
          have HX4 := hid hX4
          have HM4 := hid (HM1.out.frame hfr34 (by simp; omega))
          have HFR4 := hid (HFR2.out.seq (U := []) hfr34 (by simp) (by simp; omega))
          clear hX4 hfr34 hfr3 hfr4 hG hsz3 HX HM1 HFR2 HRR HZZ HN
          go_wp2
          go_loopw [2, 8, 9, 10] (fun _ i _ _ wl => ∃ j : Nat, j ≤ n ∧ i = .int .i64 j ∧ Own CV wl wr.heap.size n R ∧ Own (Value.int .i32) wl w.heap.size n0 (maskF zs) ∧ Frm [] w wl) (fun _ i _ _ _ => n - (intOf i).toNat)
          case atStart => exact ⟨0, Nat.zero_le _, rfl, HX4.out, HM4.out, HFR4.out⟩
          case round =>
            obtain ⟨j2, hj2, rfl, hx5, hm5, hfr5⟩ := hrel
            by_cases hlj : j2 < n
            · have c1 := hx5.cell hlj
              have c2 := hm5.cell (show j2 < n0 by omega)
              obtain ⟨g1, g2, g3⟩ := HNEAR.out j2 hlj
              have q1 := nearest_any (R j2).1
              rw [g1] at q1
              have q2 := lawQuarter_any (R j2).2 g3
              rw [g2] at q2
              have z1 : 0 ≤ maskF zs j2 ∧ maskF zs j2 < 1048576 := by unfold maskF; omega
              have z2 := z1.1
              have z3 := z1.2
              have HX5 := hid hx5
              have HM5 := hid hm5
              have HFR5 := hid hfr5
              clear hx5 hm5 hfr5 g1 g2 g3 z1
              generalize maskF zs j2 = y at *
              go_wp2_with (first | (go_at_call 24; refine same_mono (q1 _) ?_) | (go_at_call 25; refine same_mono (q2 _) ?_))
              go_roundw
              case rel => exact ⟨j2 + 1, by omega, by go_num, HX5.out, HM5.out, HFR5.out⟩
              case measure => simp [intOf]; omega
            · have HFR5 := hid hfr5
              clear hx5 hm5 hfr5
              go_wp2
              go_ret
              exact ⟨rfl, HFR5.out⟩
        · obtain ⟨q, rfl⟩ : ∃ q, k = q + 1 := ⟨k - 1, by omega⟩
          have e1 : ((q + 1 : Nat) : Int) = (q : Int) + 1 := by omega
          obtain ⟨h, hh⟩ : ∃ h, h = 2 ^ q := ⟨_, rfl⟩
          have hn2 : n = 2 * h := by rw [hh, HN.out, Nat.pow_succ]; omega
          have HH := hid hh
          have HTB := hid (tabF_bd q (by omega))
          rw [← hh] at HTB
          have HN2 := hid hn2
          clear hh hn2
          rw [e1]
          clear e1
          go_wp2_with fail
          refine (table_any q h (by omega) HH.out _).mono ?_
          rintro e w2 ⟨rfl, hT, hfrT⟩
          have hx2 := HX.out.frame hfrT (by simp)
          have bF : ∀ i, i < n → Bd 20 (intF (maskF zs) i) := fun i hi => intF_bd (HZZ.out i (by rw [← HN.out]; exact hi))
          have bG : ∀ i, i < n → Bd 86 (fwdF (q + 1) (tabF (q + 1)) (intF (maskF zs)) i) := fun i hi =>
            fwdF_bd (e := 20) (h := h) hk (by decide) (by decide) (.inr (by rw [← HN.out]; exact HN2.out)) HTB.out (fun i hi => bF i (by rw [HN.out]; exact hi)) i (by rw [← HN.out]; exact hi)
          have HBF := hid bF
          have HBG := hid bG
          have HTT := hid hT
          have HX2 := hid hx2
          have HFRT := hid hfrT
          clear bF bG hT hx2 hfrT
          go_wp2_with fail
          refine (forward_any wr.heap.size n n w1.heap.size h h (q + 1) 20 (tabF (q + 1)) (intF (maskF zs)) w2 (by omega) hk HN.out HN2.out (by omega) HTT.out HX2.out (by decide) (by decide) HTB.out HBF.out).mono ?_
          rintro e w3 ⟨rfl, hG, hfr3, hsz3⟩
          have HT3 := hid (HTT.out.frame hfr3 (by simp; omega))
          go_wp2_with fail
          refine (inverse_any wr.heap.size n n w1.heap.size h h (q + 1) 86 (tabF (q + 1)) (fwdF (q + 1) (tabF (q + 1)) (intF (maskF zs))) w3 (by omega) hk HN.out HN2.out (by omega) HT3.out hG (by decide) (by decide) HTB.out HBG.out).mono ?_
          rintro e w4 ⟨rfl, hX4, hfr4⟩
          have hfr34 := (HFRT.out.seq (U := [wr.heap.size]) hfr3 (by simp) (by simp)).trans hfr4
          rw [← HRR.out] at hX4
          have HX4 := hid hX4
          have HM4 := hid (HM1.out.frame hfr34 (by simp; omega))
          have HFR4 := hid (HFR2.out.seq (U := []) hfr34 (by simp) (by simp; omega))
          clear hX4 hfr34 hfr3 hfr4 hG hsz3 HX HM1 HFR2 HRR HZZ HN HT3 HTT HX2 HFRT HBF HBG HTB HH
          go_wp2
          go_loopw [2, 8, 9, 10] (fun _ i _ _ wl => ∃ j : Nat, j ≤ n ∧ i = .int .i64 j ∧ Own CV wl wr.heap.size n R ∧ Own (Value.int .i32) wl w.heap.size n0 (maskF zs) ∧ Frm [] w wl) (fun _ i _ _ _ => n - (intOf i).toNat)
          case atStart => exact ⟨0, Nat.zero_le _, rfl, HX4.out, HM4.out, HFR4.out⟩
          case round =>
            obtain ⟨j2, hj2, rfl, hx5, hm5, hfr5⟩ := hrel
            by_cases hlj : j2 < n
            · have c1 := hx5.cell hlj
              have c2 := hm5.cell (show j2 < n0 by omega)
              obtain ⟨g1, g2, g3⟩ := HNEAR.out j2 hlj
              have q1 := nearest_any (R j2).1
              rw [g1] at q1
              have q2 := lawQuarter_any (R j2).2 g3
              rw [g2] at q2
              have z1 : 0 ≤ maskF zs j2 ∧ maskF zs j2 < 1048576 := by unfold maskF; omega
              have z2 := z1.1
              have z3 := z1.2
              have HX5 := hid hx5
              have HM5 := hid hm5
              have HFR5 := hid hfr5
              clear hx5 hm5 hfr5 g1 g2 g3 z1
              generalize maskF zs j2 = y at *
              go_wp2_with (first | (go_at_call 24; refine same_mono (q1 _) ?_) | (go_at_call 25; refine same_mono (q2 _) ?_))
              go_roundw
              case rel => exact ⟨j2 + 1, by omega, by go_num, HX5.out, HM5.out, HFR5.out⟩
              case measure => simp [intOf]; omega
            · have HFR5 := hid hfr5
              clear hx5 hm5 hfr5
              go_wp2
              go_ret
              exact ⟨rfl, HFR5.out⟩
end Go.Proofs.Ygctaf
