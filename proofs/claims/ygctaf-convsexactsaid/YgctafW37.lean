/-
  WALKS: fftx.bluestein.
-/
import Derived.Test.YgctafBl
import Derived.BigRegion
namespace Go.Proofs.Ygctaf
open Go.RowKit Ieee
attribute [local go_sem] run_store_complex run_store_float CV_eq FV_eq

set_option maxRecDepth 20000 in
set_option maxHeartbeats 4000000 in
theorem bluestein_any (xb xcap rb rcap n q N : Nat) (e : Int) (x r : Nat → Nat × Nat) (w : World) (h0 : 0 < n) (hn : n ≤ 1024) (hq : q ≤ 10) (hlv : IsLvl (2 * n - 1) q) (hN : N = 2 ^ (q + 1))
    (hx : Own CV w xb n x) (hr : Own CV w rb n r) (he0 : 0 ≤ e) (he1 : e ≤ 500) (bx : ∀ i, i < n → Bd e (x i)) (br : ∀ i, i < n → Bd 1 (r i)) :
    Calls Tafg.prog 101 #[.slice (some ⟨xb, 0, none⟩) n xcap, .slice (some ⟨rb, 0, none⟩) n rcap] w fun e w' =>
      ∃ B, e = .returned (.slice (some ⟨B, 0, none⟩) n n) ∧ w.heap.size ≤ B ∧ Own CV w' B n (blF q n x r) ∧ Frm [] w w' := by
  have hNb : N ≤ 2048 := by rw [hN]; exact Nat.pow_le_pow_right (n := 2) (by decide) (show q + 1 ≤ 11 by omega)
  have hnN : 2 * n ≤ N + 1 := by have := hlv.1; rw [← hN] at this; omega
  have HLV := hid hlv
  have HN := hid hN
  have HX := hid hx
  have HR := hid hr
  have HBX := hid bx
  have HBR := hid br
  have HTB := hid (tabF_bd q (by omega))
  have hxs := hx.1
  have hrs := hr.1
  clear hlv hN hx hr bx br
  go_enter Tafg.func101, Tafg.ntmps101
  go_wp2
  go_loop [6] (fun s => ∃ p : Nat, 1 ≤ p ∧ p ≤ q + 1 ∧ s = .int .u8 (p : Int)) (fun s => 20 - (intOf s).toNat)
  case atStart => exact ⟨1, Nat.le_refl _, by omega, rfl⟩
  case round =>
    obtain ⟨p, hp1, hp, rfl⟩ := hrel
    obtain ⟨pp, hpp⟩ : ∃ pp, pp = 2 ^ p := ⟨_, rfl⟩
    have hpb : pp ≤ 2048 := by rw [hpp]; exact Nat.pow_le_pow_right (n := 2) (by decide) (show p ≤ 11 by omega)
    have ws := wrap_at (j := p) (by omega) hpp
    by_cases hlt : p < q + 1
    · have hmore : 2 ^ p < 2 * n - 1 := by have := isLvl_more HLV.out (p := p - 1) (by omega); rwa [show p - 1 + 1 = p from by omega] at this
      rw [← hpp] at hmore
      have c1 : (pp : Int) < 2 * (n : Int) - 1 := by omega
      have wsp := ws p rfl
      clear hpp hmore ws
      go_wp2
      go_round
      case rel => exact ⟨p + 1, by omega, by omega, by go_num⟩
      case measure => simp [intOf]; omega
    · have e : p = q + 1 := by omega
      subst e
      have e2 : pp = N := by rw [hpp, HN.out]
      subst e2
      have c1 : decide ((pp : Int) < 2 * (n : Int) - 1) = false := by simp; omega
      obtain ⟨h, hh⟩ : ∃ h, h = 2 ^ q := ⟨_, rfl⟩
      have hh2 : pp = 2 * h := by rw [hh, hpp, Nat.pow_succ, Nat.mul_comm]
      have hmk := make_c pp (by omega)
      have HH := hid hh
      have HH2 := hid hh2
      have wsp := ws (q + 1) rfl
      clear hh hh2 hpp ws
      go_wp2_with fail
      refine (table_any q h (by omega) HH.out _).mono ?_
      rintro e w2 ⟨rfl, hT, hfr1⟩
      have hs1 := hT.1
      have HT := hid hT
      have HFR1 := hid hfr1
      clear hT hfr1
      go_wp2
      go_region
      · go_wp2
        simp only [wsp]
        clear wsp c1 hmk
        have hY0 := (two_made w2 pp).1
        have hC0 := (two_made w2 pp).2
        have hT0 := ((HT.out.alloc (.cells (madeCells #[Value.complex .f64 0 0] pp) 42)).alloc (.cells (madeCells #[Value.complex .f64 0 0] pp) 42)).drew
        have hF0 := ((HFR1.out.alloc (.cells (madeCells #[Value.complex .f64 0 0] pp) 42)).alloc (.cells (madeCells #[Value.complex .f64 0 0] pp) 42)).drew
        have hYC : w2.heap.size ≠ w2.heap.size + 1 := by omega
        have hYl : w.heap.size < w2.heap.size := by omega
        have hCl : w.heap.size < w2.heap.size + 1 := by omega
        have hYs := hY0.1
        have hCs := hC0.1
        generalize ((w2.alloc (.cells (madeCells #[Value.complex .f64 0 0] pp) 42)).alloc (.cells (madeCells #[Value.complex .f64 0 0] pp) 42)).drew = W0 at *
        clear HT HFR1 hs1
        generalize w2.heap.size + 1 = C at *
        generalize w2.heap.size = Y at *
        go_loopw [11] (fun i wr => ∃ k : Nat, k ≤ n ∧ i = .int .i64 k ∧ Own CV wr Y pp (fun j => if j < k then cmul (x j) (r j) else (0, 0)) ∧ Own CV wr C pp (blC k pp r) ∧ Own CV wr w.heap.size h (tabF (q + 1)) ∧ Frm [] w wr) (fun i _ => n - (intOf i).toNat)
        case atStart => exact ⟨0, Nat.zero_le _, rfl, by simpa using hY0, hC0.congr (fun i hi => (blC_zero pp r i hi).symm), hT0, hF0⟩
        case round =>
          obtain ⟨k, hk, rfl, hY, hC, hT, hfr⟩ := hrel
          by_cases hlt2 : k < n
          · have c1 := (HX.out.frame hfr (by simp)).cell hlt2
            have c2 := (HR.out.frame hfr (by simp)).cell hlt2
            obtain ⟨old, c3, c4⟩ := hY.get (show k < pp by omega)
            have hmul := mul_any _ _ (HBX.out k hlt2) (HBR.out k hlt2) (by omega) (by omega)
            have HST := hid (hY.step (f := fun j => cmul (x j) (r j)) (show k < pp by omega) rfl)
            have HC2 := hid (hC.setCell_other (c := Y) (i := k) (by omega) (CV (cmul (x k) (r k))))
            have HT2 := hid (hT.setCell_other (c := Y) (i := k) (by omega) (CV (cmul (x k) (r k))))
            have HFR2 := hid (hfr.setCell (p := ⟨Y, k, none⟩) (.inr (by simp; omega)) (CV (cmul (x k) (r k))))
            clear hY hC hT hfr
            have b5 : (0 : Int) ≤ (k : Int) := by omega
            have b6 : (k : Int) < (n : Int) := by omega
            have b7 : (k : Int) < (pp : Int) := by omega
            go_wp2
            go_region_with (go_at_call 70; refine same_mono (hmul _) ?_)
            all_goals
              have hY1 : Own CV (wr.setCell ⟨Y, k, none⟩ (Value.complex .f64 (cmul (x k) (r k)).1 (cmul (x k) (r k)).2)).drew Y pp (fun j => if j < k + 1 then cmul (x j) (r j) else (0, 0)) := HST.out
              have hC1 : Own CV (wr.setCell ⟨Y, k, none⟩ (Value.complex .f64 (cmul (x k) (r k)).1 (cmul (x k) (r k)).2)).drew C pp (blC k pp r) := HC2.out
              have hT1 : Own CV (wr.setCell ⟨Y, k, none⟩ (Value.complex .f64 (cmul (x k) (r k)).1 (cmul (x k) (r k)).2)).drew w.heap.size h (tabF (q + 1)) := HT2.out
              have hf1 : Frm [] w (wr.setCell ⟨Y, k, none⟩ (Value.complex .f64 (cmul (x k) (r k)).1 (cmul (x k) (r k)).2)).drew := HFR2.out.drew
              clear HST HC2 HT2 HFR2 c1 c2 c3 c4 hmul
              generalize (wr.setCell ⟨Y, k, none⟩ (Value.complex .f64 (cmul (x k) (r k)).1 (cmul (x k) (r k)).2)).drew = W1 at *
              obtain ⟨cc, hcc⟩ : ∃ cc, cc = (pp - k) % pp := ⟨_, rfl⟩
              have hccl : cc < pp := by rw [hcc]; exact Nat.mod_lt _ (by omega)
              have e5 : ((pp : Int) - (k : Int)).tmod (pp : Int) = (cc : Int) := by
                rw [Int.tmod_eq_emod_of_nonneg (by omega), hcc, Int.natCast_emod, Int.ofNat_sub (by omega)]
              have d1 := (HR.out.frame hf1 (by simp)).cell hlt2
              obtain ⟨old2, d2, d3⟩ := hC1.get (show k < pp by omega)
              have hcj := conj_any (r k)
              have hC2 := hC1.setCell (i := k) (by omega) (cconj (r k))
              have d4 := hC2.cell (i := k) (by omega)
              rw [upd_same] at d4
              have d5 := hC2.cell hccl
              have d6 := hC2.free hccl
              have HSC := hid (blC_step hnN hlt2 hcc hC1)
              have HY2 := hid ((hY1.setCell_other (c := C) (i := k) (by omega) (CV (cconj (r k)))).setCell_other (c := C) (i := cc) (by omega) (CV (cconj (r k))))
              have HT2 := hid ((hT1.setCell_other (c := C) (i := k) (by omega) (CV (cconj (r k)))).setCell_other (c := C) (i := cc) (by omega) (CV (cconj (r k))))
              have HF2 := hid ((hf1.setCell (p := ⟨C, k, none⟩) (.inr (by simp; omega)) (CV (cconj (r k)))).setCell (p := ⟨C, cc, none⟩) (.inr (by simp; omega)) (CV (cconj (r k))))
              have b8 : (0 : Int) ≤ (cc : Int) := by omega
              have b9 : (cc : Int) < (pp : Int) := by omega
              have b10 : ((pp : Int) == 0) = false := by simp; omega
              clear hY1 hC1 hT1 hf1 hC2 hcc
              generalize upd (blC k pp r) k (cconj (r k)) cc = oldc at *
              go_wp2_with (first | (go_at_call 75; refine same_mono (hcj _) ?_))
              have D4 : (W1.setCell ⟨C, k, none⟩ (Value.complex .f64 (cconj (r k)).1 (cconj (r k)).2)).cell? ⟨C, k, none⟩ = some (CV (cconj (r k))) := d4
              have D5 : (W1.setCell ⟨C, k, none⟩ (Value.complex .f64 (cconj (r k)).1 (cconj (r k)).2)).cell? ⟨C, cc, none⟩ = some (CV oldc) := d5
              have D6 : (W1.setCell ⟨C, k, none⟩ (Value.complex .f64 (cconj (r k)).1 (cconj (r k)).2)).frozen? ⟨C, cc, none⟩ = false := d6
              have HSC2 : Hid (Own CV ((W1.setCell ⟨C, k, none⟩ (Value.complex .f64 (cconj (r k)).1 (cconj (r k)).2)).setCell ⟨C, cc, none⟩ (Value.complex .f64 (cconj (r k)).1 (cconj (r k)).2)) C pp (blC (k + 1) pp r)) := HSC
              have HY3 : Hid (Own CV ((W1.setCell ⟨C, k, none⟩ (Value.complex .f64 (cconj (r k)).1 (cconj (r k)).2)).setCell ⟨C, cc, none⟩ (Value.complex .f64 (cconj (r k)).1 (cconj (r k)).2)) Y pp (fun j => if j < k + 1 then cmul (x j) (r j) else (0, 0))) := HY2
              have HT3 : Hid (Own CV ((W1.setCell ⟨C, k, none⟩ (Value.complex .f64 (cconj (r k)).1 (cconj (r k)).2)).setCell ⟨C, cc, none⟩ (Value.complex .f64 (cconj (r k)).1 (cconj (r k)).2)) w.heap.size h (tabF (q + 1))) := HT2
              have HF3 : Hid (Frm [] w ((W1.setCell ⟨C, k, none⟩ (Value.complex .f64 (cconj (r k)).1 (cconj (r k)).2)).setCell ⟨C, cc, none⟩ (Value.complex .f64 (cconj (r k)).1 (cconj (r k)).2))) := HF2
              clear HSC HY2 HT2 HF2 d1 d2 d3 d4 d5 d6 hcj
              generalize W1.setCell ⟨C, k, none⟩ (Value.complex .f64 (cconj (r k)).1 (cconj (r k)).2) = W2 at *
              go_region
              go_wp2
              go_roundw
              case rel => exact ⟨k + 1, by omega, by go_num, HY3.out.drew, HSC2.out.drew, HT3.out.drew, HF3.out.drew⟩
              case measure => simp [intOf]; omega
          · have hYn : Own CV wr Y pp (blY n x r) := hY.congr fun i hi => by
              unfold blY
              by_cases g : i < n
              · rw [if_pos g, if_pos (by omega)]
              · rw [if_neg g, if_neg (by omega)]
            have hCn : Own CV wr C pp (blC n pp r) := by rw [show n = k from by omega]; exact hC
            clear hY hC
            go_wp2_with fail
            refine (forward_any Y pp pp w.heap.size h h (q + 1) (e + 4) (tabF (q + 1)) (blY n x r) _ (by omega) (by omega) HN.out HH2.out (by omega) hT hYn (by omega) (by omega) (by rw [HH.out]; exact HTB.out) (fun i _ => blY_bd he0 (by omega) HBX.out HBR.out i)).mono ?_
            rintro e' w5 ⟨rfl, hY5, hfr6, hsz5⟩
            have hT5 := hT.frame hfr6 (by simp; omega)
            have hC5 := hCn.frame hfr6 (by simp; omega)
            have hfr7 : Frm [] w w5 := hfr.seq hfr6 (by simp) (by intro i hi hl; simp at hi; omega)
            clear hT hYn hCn hfr hfr6 hsz5
            go_wp2_with fail
            refine (forward_any C pp pp w.heap.size h h (q + 1) 1 (tabF (q + 1)) (blC n pp r) _ (by omega) (by omega) HN.out HH2.out (by omega) hT5 hC5 (by decide) (by decide) (by rw [HH.out]; exact HTB.out) (blC_bd HBR.out)).mono ?_
            rintro e' w6 ⟨rfl, hC6, hfr8, hsz6⟩
            have hT6 := hT5.frame hfr8 (by simp; omega)
            have hY6 := hY5.frame hfr8 (by simp; omega)
            have hfr9 : Frm [] w w6 := hfr7.seq hfr8 (by simp) (by intro i hi hl; simp at hi; omega)
            obtain ⟨FX, hFX⟩ : ∃ g, g = fwdF (q + 1) (tabF (q + 1)) (blY n x r) := ⟨_, rfl⟩
            obtain ⟨FY, hFY⟩ : ∃ g, g = fwdF (q + 1) (tabF (q + 1)) (blC n pp r) := ⟨_, rfl⟩
            have hB1 : ∀ i, i < pp → Bd (e + 70) (FX i) := fun i hi => by
              rw [hFX]
              exact (fwdF_bd (by omega) (by omega) (by omega) (.inr (by rw [← HN.out]; exact HH2.out)) (by rw [HH.out]; exact HTB.out) (fun i _ => blY_bd he0 (by omega) HBX.out HBR.out i) i (by rw [← HN.out]; exact hi)).mono (by omega)
            have hB2 : ∀ i, i < pp → Bd 67 (FY i) := fun i hi => by
              rw [hFY]
              exact (fwdF_bd (by omega) (by omega) (by omega) (.inr (by rw [← HN.out]; exact HH2.out)) (by rw [HH.out]; exact HTB.out) (fun i hi2 => blC_bd HBR.out i (by rw [HN.out]; exact hi2)) i (by rw [← HN.out]; exact hi)).mono (by omega)
            rw [← hFX] at hY6
            rw [← hFY] at hC6
            have HFX := hid hFX
            have HFY := hid hFY
            have HB1 := hid hB1
            have HB2 := hid hB2
            have HT6 := hid hT6
            have HY6 := hid hY6
            have HC6 := hid hC6
            have HFR9 := hid hfr9
            clear hT5 hY5 hC5 hfr7 hfr8 hFX hFY hB1 hB2 hT6 hY6 hC6 hfr9 hsz6
            go_wp2
            go_loopw [12] (fun i wr => ∃ k : Nat, k ≤ pp ∧ i = .int .i64 k ∧ Own CV wr Y pp (fun j => if j < k then cmul (FX j) (FY j) else FX j) ∧ Own CV wr C pp FY ∧ Own CV wr w.heap.size h (tabF (q + 1)) ∧ Frm [] w wr) (fun i _ => pp - (intOf i).toNat)
            case atStart => exact ⟨0, Nat.zero_le _, rfl, by simpa using HY6.out, HC6.out, HT6.out, HFR9.out⟩
            case round =>
              obtain ⟨k4, hk4, rfl, hY, hC, hT, hfr⟩ := hrel
              by_cases hlt4 : k4 < pp
              · have c2 := hY.cell hlt4
                rw [if_neg (Nat.lt_irrefl k4)] at c2
                have c3 := hY.free hlt4
                have c4 := hC.cell hlt4
                have hmul := mul_any _ _ (HB1.out k4 hlt4) (HB2.out k4 hlt4) (by omega) (by omega)
                have HST := hid (hY.step hlt4 (v := CV (cmul (FX k4) (FY k4))) rfl)
                have HC2 := hid (hC.setCell_other (c := Y) (i := k4) (by omega) (CV (cmul (FX k4) (FY k4))))
                have HT2 := hid (hT.setCell_other (c := Y) (i := k4) (by omega) (CV (cmul (FX k4) (FY k4))))
                have HFR2 := hid (hfr.setCell (p := ⟨Y, k4, none⟩) (.inr (by simp; omega)) (CV (cmul (FX k4) (FY k4))))
                clear hY hC hT hfr
                have b5 : (0 : Int) ≤ (k4 : Int) := by omega
                have b6 : (k4 : Int) < (pp : Int) := by omega
                go_wp2
                go_region_with (go_at_call 70; refine same_mono (hmul _) ?_)
                all_goals go_wp2
                all_goals
                  go_roundw
                  case rel => exact ⟨k4 + 1, by omega, by go_num, HST.out.drew, HC2.out.drew, HT2.out.drew, HFR2.out.drew⟩
                  case measure => simp [intOf]; omega
              · have hY2 := hY.full (by omega)
                have hbP : ∀ i, i < pp → Bd (e + 140) (cmul (FX i) (FY i)) := fun i hi => ((HB1.out i hi).mul (HB2.out i hi) (by omega) (by omega)).mono (by omega)
                have hinv := inverse_any Y pp pp w.heap.size h h (q + 1) (e + 140) (tabF (q + 1)) (fun i => cmul (FX i) (FY i)) wr (by omega) (by omega) HN.out HH2.out (by omega) hT hY2 (by omega) (by omega) (by rw [HH.out]; exact HTB.out) hbP
                obtain ⟨IV, hIV⟩ : ∃ g, g = invF (q + 1) (tabF (q + 1)) (fun i => cmul (FX i) (FY i)) := ⟨_, rfl⟩
                have hBI : ∀ i, i < pp → Bd (e + 207) (IV i) := fun i hi => by
                  rw [hIV]
                  exact (invF_bd (by omega) (by omega) (by omega) (.inr (by rw [← HN.out]; exact HH2.out)) (by rw [HH.out]; exact HTB.out) (fun i hi2 => hbP i (by rw [HN.out]; exact hi2)) i (by rw [← HN.out]; exact hi)).mono (by omega)
                rw [← hIV] at hinv
                have HINV := hid hinv
                have HFR := hid hfr
                have HIV := hid hIV
                have HBI := hid hBI
                clear hinv hY hY2 hC hT hfr hIV hBI hbP
                go_wp2_with fail
                refine Calls.mono HINV.out ?_
                rintro e' w7 ⟨rfl, hY7, hfr7⟩
                have hfr10 : Frm [] w w7 := HFR.out.seq hfr7 (by simp) (by intro i hi hl; simp at hi; omega)
                have hs7 := hfr10.size
                have hYs7 := hY7.1
                have HY7 := hid hY7
                have HF7 := hid hfr10
                have hmk2 := make_c n (by omega)
                clear hY7 hfr7 hfr10 HINV HFR
                go_wp2
                go_loopw [14] (fun i wr => ∃ k : Nat, k ≤ n ∧ i = .int .i64 k ∧ Own CV wr w7.heap.size n (fun j => if j < k then cmul (IV j) (r j) else (0, 0)) ∧ Own CV wr Y pp IV ∧ Frm [] w wr) (fun i _ => n - (intOf i).toNat)
                case atStart => exact ⟨0, Nat.zero_le _, rfl, by simpa using Own.madeC, HY7.out.alloc _, HF7.out.alloc _⟩
                case round =>
                  obtain ⟨k5, hk5, rfl, hD, hY, hfr⟩ := hrel
                  by_cases hlt5 : k5 < n
                  · have c2 := hY.cell (show k5 < pp by omega)
                    have c3 := hD.cell hlt5
                    have c4 := hD.free hlt5
                    have c5 := (HR.out.frame hfr (by simp)).cell hlt5
                    have hmul := mul_any _ _ (HBI.out k5 (by omega)) (HBR.out k5 hlt5) (by omega) (by omega)
                    have HST := hid (hD.step (f := fun j => cmul (IV j) (r j)) hlt5 (v := CV (cmul (IV k5) (r k5))) rfl)
                    have HY2 := hid (hY.setCell_other (c := w7.heap.size) (i := k5) (by omega) (CV (cmul (IV k5) (r k5))))
                    have HFR2 := hid (hfr.setCell (p := ⟨w7.heap.size, k5, none⟩) (.inr (by simp; omega)) (CV (cmul (IV k5) (r k5))))
                    clear hD hY hfr
                    have b5 : (0 : Int) ≤ (k5 : Int) := by omega
                    have b6 : (k5 : Int) < (n : Int) := by omega
                    have b7 : (k5 : Int) < (pp : Int) := by omega
                    go_wp2
                    go_region_with (go_at_call 70; refine same_mono (hmul _) ?_)
                    all_goals go_wp2
                    all_goals
                      go_roundw
                      case rel => exact ⟨k5 + 1, by omega, by go_num, HST.out.drew, HY2.out.drew, HFR2.out.drew⟩
                      case measure => simp [intOf]; omega
                  · have HD := hid (hD.full (f := fun j => cmul (IV j) (r j)) (by omega))
                    have HFR := hid hfr
                    clear hD hY hfr
                    go_wp2
                    go_ret
                    refine ⟨w7.heap.size, rfl, by omega, ?_, HFR.out⟩
                    have hd := HD.out
                    rw [HIV.out, HFX.out, HFY.out, HN.out] at hd
                    exact hd
      · go_wp2
        simp only [wsp]
        clear wsp c1 hmk
        have hY0 := (two_made w2 pp).2
        have hC0 := (two_made w2 pp).1
        have hT0 := ((HT.out.alloc (.cells (madeCells #[Value.complex .f64 0 0] pp) 42)).alloc (.cells (madeCells #[Value.complex .f64 0 0] pp) 42)).drew
        have hF0 := ((HFR1.out.alloc (.cells (madeCells #[Value.complex .f64 0 0] pp) 42)).alloc (.cells (madeCells #[Value.complex .f64 0 0] pp) 42)).drew
        have hYC : w2.heap.size + 1 ≠ w2.heap.size := by omega
        have hYl : w.heap.size < w2.heap.size + 1 := by omega
        have hCl : w.heap.size < w2.heap.size := by omega
        have hYs := hY0.1
        have hCs := hC0.1
        generalize ((w2.alloc (.cells (madeCells #[Value.complex .f64 0 0] pp) 42)).alloc (.cells (madeCells #[Value.complex .f64 0 0] pp) 42)).drew = W0 at *
        clear HT HFR1 hs1
        generalize w2.heap.size + 1 = Y at *
        generalize w2.heap.size = C at *
        go_loopw [11] (fun i wr => ∃ k : Nat, k ≤ n ∧ i = .int .i64 k ∧ Own CV wr Y pp (fun j => if j < k then cmul (x j) (r j) else (0, 0)) ∧ Own CV wr C pp (blC k pp r) ∧ Own CV wr w.heap.size h (tabF (q + 1)) ∧ Frm [] w wr) (fun i _ => n - (intOf i).toNat)
        case atStart => exact ⟨0, Nat.zero_le _, rfl, by simpa using hY0, hC0.congr (fun i hi => (blC_zero pp r i hi).symm), hT0, hF0⟩
        case round =>
          obtain ⟨k, hk, rfl, hY, hC, hT, hfr⟩ := hrel
          by_cases hlt2 : k < n
          · have c1 := (HX.out.frame hfr (by simp)).cell hlt2
            have c2 := (HR.out.frame hfr (by simp)).cell hlt2
            obtain ⟨old, c3, c4⟩ := hY.get (show k < pp by omega)
            have hmul := mul_any _ _ (HBX.out k hlt2) (HBR.out k hlt2) (by omega) (by omega)
            have HST := hid (hY.step (f := fun j => cmul (x j) (r j)) (show k < pp by omega) rfl)
            have HC2 := hid (hC.setCell_other (c := Y) (i := k) (by omega) (CV (cmul (x k) (r k))))
            have HT2 := hid (hT.setCell_other (c := Y) (i := k) (by omega) (CV (cmul (x k) (r k))))
            have HFR2 := hid (hfr.setCell (p := ⟨Y, k, none⟩) (.inr (by simp; omega)) (CV (cmul (x k) (r k))))
            clear hY hC hT hfr
            have b5 : (0 : Int) ≤ (k : Int) := by omega
            have b6 : (k : Int) < (n : Int) := by omega
            have b7 : (k : Int) < (pp : Int) := by omega
            go_wp2
            go_region_with (go_at_call 70; refine same_mono (hmul _) ?_)
            all_goals
              have hY1 : Own CV (wr.setCell ⟨Y, k, none⟩ (Value.complex .f64 (cmul (x k) (r k)).1 (cmul (x k) (r k)).2)).drew Y pp (fun j => if j < k + 1 then cmul (x j) (r j) else (0, 0)) := HST.out
              have hC1 : Own CV (wr.setCell ⟨Y, k, none⟩ (Value.complex .f64 (cmul (x k) (r k)).1 (cmul (x k) (r k)).2)).drew C pp (blC k pp r) := HC2.out
              have hT1 : Own CV (wr.setCell ⟨Y, k, none⟩ (Value.complex .f64 (cmul (x k) (r k)).1 (cmul (x k) (r k)).2)).drew w.heap.size h (tabF (q + 1)) := HT2.out
              have hf1 : Frm [] w (wr.setCell ⟨Y, k, none⟩ (Value.complex .f64 (cmul (x k) (r k)).1 (cmul (x k) (r k)).2)).drew := HFR2.out.drew
              clear HST HC2 HT2 HFR2 c1 c2 c3 c4 hmul
              generalize (wr.setCell ⟨Y, k, none⟩ (Value.complex .f64 (cmul (x k) (r k)).1 (cmul (x k) (r k)).2)).drew = W1 at *
              obtain ⟨cc, hcc⟩ : ∃ cc, cc = (pp - k) % pp := ⟨_, rfl⟩
              have hccl : cc < pp := by rw [hcc]; exact Nat.mod_lt _ (by omega)
              have e5 : ((pp : Int) - (k : Int)).tmod (pp : Int) = (cc : Int) := by
                rw [Int.tmod_eq_emod_of_nonneg (by omega), hcc, Int.natCast_emod, Int.ofNat_sub (by omega)]
              have d1 := (HR.out.frame hf1 (by simp)).cell hlt2
              obtain ⟨old2, d2, d3⟩ := hC1.get (show k < pp by omega)
              have hcj := conj_any (r k)
              have hC2 := hC1.setCell (i := k) (by omega) (cconj (r k))
              have d4 := hC2.cell (i := k) (by omega)
              rw [upd_same] at d4
              have d5 := hC2.cell hccl
              have d6 := hC2.free hccl
              have HSC := hid (blC_step hnN hlt2 hcc hC1)
              have HY2 := hid ((hY1.setCell_other (c := C) (i := k) (by omega) (CV (cconj (r k)))).setCell_other (c := C) (i := cc) (by omega) (CV (cconj (r k))))
              have HT2 := hid ((hT1.setCell_other (c := C) (i := k) (by omega) (CV (cconj (r k)))).setCell_other (c := C) (i := cc) (by omega) (CV (cconj (r k))))
              have HF2 := hid ((hf1.setCell (p := ⟨C, k, none⟩) (.inr (by simp; omega)) (CV (cconj (r k)))).setCell (p := ⟨C, cc, none⟩) (.inr (by simp; omega)) (CV (cconj (r k))))
              have b8 : (0 : Int) ≤ (cc : Int) := by omega
              have b9 : (cc : Int) < (pp : Int) := by omega
              have b10 : ((pp : Int) == 0) = false := by simp; omega
              clear hY1 hC1 hT1 hf1 hC2 hcc
              generalize upd (blC k pp r) k (cconj (r k)) cc = oldc at *
              go_wp2_with (first | (go_at_call 75; refine same_mono (hcj _) ?_))
              have D4 : (W1.setCell ⟨C, k, none⟩ (Value.complex .f64 (cconj (r k)).1 (cconj (r k)).2)).cell? ⟨C, k, none⟩ = some (CV (cconj (r k))) := d4
              have D5 : (W1.setCell ⟨C, k, none⟩ (Value.complex .f64 (cconj (r k)).1 (cconj (r k)).2)).cell? ⟨C, cc, none⟩ = some (CV oldc) := d5
              have D6 : (W1.setCell ⟨C, k, none⟩ (Value.complex .f64 (cconj (r k)).1 (cconj (r k)).2)).frozen? ⟨C, cc, none⟩ = false := d6
              have HSC2 : Hid (Own CV ((W1.setCell ⟨C, k, none⟩ (Value.complex .f64 (cconj (r k)).1 (cconj (r k)).2)).setCell ⟨C, cc, none⟩ (Value.complex .f64 (cconj (r k)).1 (cconj (r k)).2)) C pp (blC (k + 1) pp r)) := HSC
              have HY3 : Hid (Own CV ((W1.setCell ⟨C, k, none⟩ (Value.complex .f64 (cconj (r k)).1 (cconj (r k)).2)).setCell ⟨C, cc, none⟩ (Value.complex .f64 (cconj (r k)).1 (cconj (r k)).2)) Y pp (fun j => if j < k + 1 then cmul (x j) (r j) else (0, 0))) := HY2
              have HT3 : Hid (Own CV ((W1.setCell ⟨C, k, none⟩ (Value.complex .f64 (cconj (r k)).1 (cconj (r k)).2)).setCell ⟨C, cc, none⟩ (Value.complex .f64 (cconj (r k)).1 (cconj (r k)).2)) w.heap.size h (tabF (q + 1))) := HT2
              have HF3 : Hid (Frm [] w ((W1.setCell ⟨C, k, none⟩ (Value.complex .f64 (cconj (r k)).1 (cconj (r k)).2)).setCell ⟨C, cc, none⟩ (Value.complex .f64 (cconj (r k)).1 (cconj (r k)).2))) := HF2
              clear HSC HY2 HT2 HF2 d1 d2 d3 d4 d5 d6 hcj
              generalize W1.setCell ⟨C, k, none⟩ (Value.complex .f64 (cconj (r k)).1 (cconj (r k)).2) = W2 at *
              go_region
              go_wp2
              go_roundw
              case rel => exact ⟨k + 1, by omega, by go_num, HY3.out.drew, HSC2.out.drew, HT3.out.drew, HF3.out.drew⟩
              case measure => simp [intOf]; omega
          · have hYn : Own CV wr Y pp (blY n x r) := hY.congr fun i hi => by
              unfold blY
              by_cases g : i < n
              · rw [if_pos g, if_pos (by omega)]
              · rw [if_neg g, if_neg (by omega)]
            have hCn : Own CV wr C pp (blC n pp r) := by rw [show n = k from by omega]; exact hC
            clear hY hC
            go_wp2_with fail
            refine (forward_any Y pp pp w.heap.size h h (q + 1) (e + 4) (tabF (q + 1)) (blY n x r) _ (by omega) (by omega) HN.out HH2.out (by omega) hT hYn (by omega) (by omega) (by rw [HH.out]; exact HTB.out) (fun i _ => blY_bd he0 (by omega) HBX.out HBR.out i)).mono ?_
            rintro e' w5 ⟨rfl, hY5, hfr6, hsz5⟩
            have hT5 := hT.frame hfr6 (by simp; omega)
            have hC5 := hCn.frame hfr6 (by simp; omega)
            have hfr7 : Frm [] w w5 := hfr.seq hfr6 (by simp) (by intro i hi hl; simp at hi; omega)
            clear hT hYn hCn hfr hfr6 hsz5
            go_wp2_with fail
            refine (forward_any C pp pp w.heap.size h h (q + 1) 1 (tabF (q + 1)) (blC n pp r) _ (by omega) (by omega) HN.out HH2.out (by omega) hT5 hC5 (by decide) (by decide) (by rw [HH.out]; exact HTB.out) (blC_bd HBR.out)).mono ?_
            rintro e' w6 ⟨rfl, hC6, hfr8, hsz6⟩
            have hT6 := hT5.frame hfr8 (by simp; omega)
            have hY6 := hY5.frame hfr8 (by simp; omega)
            have hfr9 : Frm [] w w6 := hfr7.seq hfr8 (by simp) (by intro i hi hl; simp at hi; omega)
            obtain ⟨FX, hFX⟩ : ∃ g, g = fwdF (q + 1) (tabF (q + 1)) (blY n x r) := ⟨_, rfl⟩
            obtain ⟨FY, hFY⟩ : ∃ g, g = fwdF (q + 1) (tabF (q + 1)) (blC n pp r) := ⟨_, rfl⟩
            have hB1 : ∀ i, i < pp → Bd (e + 70) (FX i) := fun i hi => by
              rw [hFX]
              exact (fwdF_bd (by omega) (by omega) (by omega) (.inr (by rw [← HN.out]; exact HH2.out)) (by rw [HH.out]; exact HTB.out) (fun i _ => blY_bd he0 (by omega) HBX.out HBR.out i) i (by rw [← HN.out]; exact hi)).mono (by omega)
            have hB2 : ∀ i, i < pp → Bd 67 (FY i) := fun i hi => by
              rw [hFY]
              exact (fwdF_bd (by omega) (by omega) (by omega) (.inr (by rw [← HN.out]; exact HH2.out)) (by rw [HH.out]; exact HTB.out) (fun i hi2 => blC_bd HBR.out i (by rw [HN.out]; exact hi2)) i (by rw [← HN.out]; exact hi)).mono (by omega)
            rw [← hFX] at hY6
            rw [← hFY] at hC6
            have HFX := hid hFX
            have HFY := hid hFY
            have HB1 := hid hB1
            have HB2 := hid hB2
            have HT6 := hid hT6
            have HY6 := hid hY6
            have HC6 := hid hC6
            have HFR9 := hid hfr9
            clear hT5 hY5 hC5 hfr7 hfr8 hFX hFY hB1 hB2 hT6 hY6 hC6 hfr9 hsz6
            go_wp2
            go_loopw [12] (fun i wr => ∃ k : Nat, k ≤ pp ∧ i = .int .i64 k ∧ Own CV wr Y pp (fun j => if j < k then cmul (FX j) (FY j) else FX j) ∧ Own CV wr C pp FY ∧ Own CV wr w.heap.size h (tabF (q + 1)) ∧ Frm [] w wr) (fun i _ => pp - (intOf i).toNat)
            case atStart => exact ⟨0, Nat.zero_le _, rfl, by simpa using HY6.out, HC6.out, HT6.out, HFR9.out⟩
            case round =>
              obtain ⟨k4, hk4, rfl, hY, hC, hT, hfr⟩ := hrel
              by_cases hlt4 : k4 < pp
              · have c2 := hY.cell hlt4
                rw [if_neg (Nat.lt_irrefl k4)] at c2
                have c3 := hY.free hlt4
                have c4 := hC.cell hlt4
                have hmul := mul_any _ _ (HB1.out k4 hlt4) (HB2.out k4 hlt4) (by omega) (by omega)
                have HST := hid (hY.step hlt4 (v := CV (cmul (FX k4) (FY k4))) rfl)
                have HC2 := hid (hC.setCell_other (c := Y) (i := k4) (by omega) (CV (cmul (FX k4) (FY k4))))
                have HT2 := hid (hT.setCell_other (c := Y) (i := k4) (by omega) (CV (cmul (FX k4) (FY k4))))
                have HFR2 := hid (hfr.setCell (p := ⟨Y, k4, none⟩) (.inr (by simp; omega)) (CV (cmul (FX k4) (FY k4))))
                clear hY hC hT hfr
                have b5 : (0 : Int) ≤ (k4 : Int) := by omega
                have b6 : (k4 : Int) < (pp : Int) := by omega
                go_wp2
                go_region_with (go_at_call 70; refine same_mono (hmul _) ?_)
                all_goals go_wp2
                all_goals
                  go_roundw
                  case rel => exact ⟨k4 + 1, by omega, by go_num, HST.out.drew, HC2.out.drew, HT2.out.drew, HFR2.out.drew⟩
                  case measure => simp [intOf]; omega
              · have hY2 := hY.full (by omega)
                have hbP : ∀ i, i < pp → Bd (e + 140) (cmul (FX i) (FY i)) := fun i hi => ((HB1.out i hi).mul (HB2.out i hi) (by omega) (by omega)).mono (by omega)
                have hinv := inverse_any Y pp pp w.heap.size h h (q + 1) (e + 140) (tabF (q + 1)) (fun i => cmul (FX i) (FY i)) wr (by omega) (by omega) HN.out HH2.out (by omega) hT hY2 (by omega) (by omega) (by rw [HH.out]; exact HTB.out) hbP
                obtain ⟨IV, hIV⟩ : ∃ g, g = invF (q + 1) (tabF (q + 1)) (fun i => cmul (FX i) (FY i)) := ⟨_, rfl⟩
                have hBI : ∀ i, i < pp → Bd (e + 207) (IV i) := fun i hi => by
                  rw [hIV]
                  exact (invF_bd (by omega) (by omega) (by omega) (.inr (by rw [← HN.out]; exact HH2.out)) (by rw [HH.out]; exact HTB.out) (fun i hi2 => hbP i (by rw [HN.out]; exact hi2)) i (by rw [← HN.out]; exact hi)).mono (by omega)
                rw [← hIV] at hinv
                have HINV := hid hinv
                have HFR := hid hfr
                have HIV := hid hIV
                have HBI := hid hBI
                clear hinv hY hY2 hC hT hfr hIV hBI hbP
                go_wp2_with fail
                refine Calls.mono HINV.out ?_
                rintro e' w7 ⟨rfl, hY7, hfr7⟩
                have hfr10 : Frm [] w w7 := HFR.out.seq hfr7 (by simp) (by intro i hi hl; simp at hi; omega)
                have hs7 := hfr10.size
                have hYs7 := hY7.1
                have HY7 := hid hY7
                have HF7 := hid hfr10
                have hmk2 := make_c n (by omega)
                clear hY7 hfr7 hfr10 HINV HFR
                go_wp2
                go_loopw [14] (fun i wr => ∃ k : Nat, k ≤ n ∧ i = .int .i64 k ∧ Own CV wr w7.heap.size n (fun j => if j < k then cmul (IV j) (r j) else (0, 0)) ∧ Own CV wr Y pp IV ∧ Frm [] w wr) (fun i _ => n - (intOf i).toNat)
                case atStart => exact ⟨0, Nat.zero_le _, rfl, by simpa using Own.madeC, HY7.out.alloc _, HF7.out.alloc _⟩
                case round =>
                  obtain ⟨k5, hk5, rfl, hD, hY, hfr⟩ := hrel
                  by_cases hlt5 : k5 < n
                  · have c2 := hY.cell (show k5 < pp by omega)
                    have c3 := hD.cell hlt5
                    have c4 := hD.free hlt5
                    have c5 := (HR.out.frame hfr (by simp)).cell hlt5
                    have hmul := mul_any _ _ (HBI.out k5 (by omega)) (HBR.out k5 hlt5) (by omega) (by omega)
                    have HST := hid (hD.step (f := fun j => cmul (IV j) (r j)) hlt5 (v := CV (cmul (IV k5) (r k5))) rfl)
                    have HY2 := hid (hY.setCell_other (c := w7.heap.size) (i := k5) (by omega) (CV (cmul (IV k5) (r k5))))
                    have HFR2 := hid (hfr.setCell (p := ⟨w7.heap.size, k5, none⟩) (.inr (by simp; omega)) (CV (cmul (IV k5) (r k5))))
                    clear hD hY hfr
                    have b5 : (0 : Int) ≤ (k5 : Int) := by omega
                    have b6 : (k5 : Int) < (n : Int) := by omega
                    have b7 : (k5 : Int) < (pp : Int) := by omega
                    go_wp2
                    go_region_with (go_at_call 70; refine same_mono (hmul _) ?_)
                    all_goals go_wp2
                    all_goals
                      go_roundw
                      case rel => exact ⟨k5 + 1, by omega, by go_num, HST.out.drew, HY2.out.drew, HFR2.out.drew⟩
                      case measure => simp [intOf]; omega
                  · have HD := hid (hD.full (f := fun j => cmul (IV j) (r j)) (by omega))
                    have HFR := hid hfr
                    clear hD hY hfr
                    go_wp2
                    go_ret
                    refine ⟨w7.heap.size, rfl, by omega, ?_, HFR.out⟩
                    have hd := HD.out
                    rw [HIV.out, HFX.out, HFY.out, HN.out] at hd
                    exact hd
end Go.Proofs.Ygctaf
