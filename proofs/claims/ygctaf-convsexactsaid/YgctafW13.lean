/-
  WALKS: law.recipe.
-/
import Derived.Test.YgctafW12
import Derived.BigRegion
namespace Go.Proofs.Ygctaf
open Go.RowKit
attribute [local go_sem] run_store_complex run_store_float CV_eq FV_eq

theorem ptsF_step {w : World} {b n la k : Nat} {za : Nat → Int} (hk : k < la) (hn : k < n) (h : Own CV w b n (fun j => if j < k then ptsF la za j else (0, 0))) :
    Own CV (w.setCell ⟨b, k, none⟩ (.complex .f64 (fint (za k)) 0)) b n (fun j => if j < k + 1 then ptsF la za j else (0, 0)) :=
  h.step hn (by unfold ptsF; rw [if_pos hk]; rfl)
theorem ptsF_end {w : World} {b n la k : Nat} {za : Nat → Int} (hk : la ≤ k) (h : Own CV w b n (fun j => if j < k then ptsF la za j else (0, 0))) : Own CV w b n (ptsF la za) :=
  h.congr fun i _ => by
    by_cases g : i < k
    · rw [if_pos g]
    · rw [if_neg g]; unfold ptsF; rw [if_neg (by omega)]

theorem two_made (w : World) (n : Nat) :
    Own CV ((w.alloc (.cells (madeCells #[Value.complex .f64 0 0] n) 42)).alloc (.cells (madeCells #[Value.complex .f64 0 0] n) 42)).drew w.heap.size n (fun _ => (0, 0)) ∧
    Own CV ((w.alloc (.cells (madeCells #[Value.complex .f64 0 0] n) 42)).alloc (.cells (madeCells #[Value.complex .f64 0 0] n) 42)).drew (w.heap.size + 1) n (fun _ => (0, 0)) := by
  refine ⟨((Own.madeC (w := w) (e := 42)).alloc _).drew, ?_⟩
  have := (Own.madeC (w := w.alloc (.cells (madeCells #[Value.complex .f64 0 0] n) 42)) (n := n) (e := 42)).drew
  rw [World.size_alloc] at this
  exact this

set_option maxHeartbeats 4000000 in
theorem recipe_any (ab aoff la acap bb boff lb bcap q n : Nat) (za zb : Nat → Int) (w : World) (ha1 : 1 ≤ la) (ha2 : la ≤ 512) (hb1 : 1 ≤ lb) (hb2 : lb ≤ 512) (hq : q ≤ 9) (hlv : IsLvl (la + lb - 1) q) (hn : n = 2 ^ (q + 1))
    (hab : ab < w.heap.size) (hbb : bb < w.heap.size) (hra : Rd (Value.int .u8) w ab aoff la za) (hrb : Rd (Value.int .u8) w bb boff lb zb)
    (va : ∀ i, i < la → 0 ≤ za i ∧ za i ≤ 255) (vb : ∀ i, i < lb → 0 ≤ zb i ∧ zb i ≤ 255) :
    Calls Tafg.prog 36 #[.slice (some ⟨ab, aoff, none⟩) la acap, .slice (some ⟨bb, boff, none⟩) lb bcap] w fun e w' =>
      ∃ B, e = .returned (.slice (some ⟨B, 0, none⟩) n n) ∧ w.heap.size ≤ B ∧ Own CV w' B n (rawF (q + 1) la za lb zb) ∧ Frm [] w w' := by
  have hm := hlv.1
  have hb3 : n ≤ 1024 := by
    have : 2 ^ (q + 1) ≤ 2 ^ 10 := Nat.pow_le_pow_right (by decide) (by omega)
    omega
  have hbds := rawF_bds (q := q) (la := la) (lb := lb) (za := za) (zb := zb) (by omega) va vb
  rw [← hn] at hbds
  have hnh : n = 2 * 2 ^ q := by rw [hn, Nat.pow_succ]; omega
  have HBDS := hid hbds
  have HNH := hid hnh
  have HLV := hid hlv
  have HN := hid hn
  have HRA := hid hra
  have HRB := hid hrb
  have HTB := hid (tabF_bd q (by omega))
  have HPA := hid (ptsF_bd va)
  have HPB := hid (ptsF_bd vb)
  have hfi := floatOfInt_eq
  have HM := hid hm
  clear hlv hn hra hrb va vb hbds hnh hm
  go_enter Tafg.func36, Tafg.ntmps36
  go_wp2
  go_loop [5, 6] (fun sn s => ∃ p pp : Nat, 1 ≤ p ∧ p ≤ q + 1 ∧ pp = 2 ^ p ∧ sn = .int .i64 (pp : Int) ∧ s = .int .u8 (p : Int)) (fun _ s => 20 - (intOf s).toNat)
  case atStart => exact ⟨1, 2, Nat.le_refl _, by omega, rfl, rfl, rfl⟩
  case round =>
    obtain ⟨p, pp, hp1, hp, hpp, rfl, rfl⟩ := hrel
    have hpb : pp ≤ 1024 := by
      have : 2 ^ p ≤ 2 ^ 10 := Nat.pow_le_pow_right (by decide) (by omega)
      omega
    by_cases hlt : p < q + 1
    · have hmore : 2 ^ p < la + lb - 1 := by have := isLvl_more HLV.out (p := p - 1) (by omega); rwa [show p - 1 + 1 = p from by omega] at this
      rw [← hpp] at hmore
      have c1 : (pp : Int) < (la : Int) + (lb : Int) - 1 := by omega
      have hp2 : 2 * pp = 2 ^ (p + 1) := by rw [hpp, Nat.pow_succ]; omega
      have HP2 := hid hp2
      clear hpp hmore hp2
      go_wp2
      go_round
      case rel => exact ⟨p + 1, 2 * pp, by omega, by omega, HP2.out, by go_num, by go_num⟩
      case measure => simp [intOf]; omega
    · have e : p = q + 1 := by omega
      subst e
      have e2 : pp = n := by rw [hpp, HN.out]
      subst e2
      have c1 : ¬ ((pp : Int) < (la : Int) + (lb : Int) - 1) := by have := HN.out; have := HM.out; omega
      obtain ⟨h, hh⟩ : ∃ h, h = 2 ^ q := ⟨_, rfl⟩
      have hh2 : pp = 2 * h := by rw [hh]; exact HNH.out
      have hmk := make_c pp (by omega)
      have hla : la ≤ pp := by have := HN.out; have := HM.out; omega
      have hlb : lb ≤ pp := by have := HN.out; have := HM.out; omega
      have HH := hid hh
      have HH2 := hid hh2
      clear hh hh2 hpp
      go_wp2_with fail
      refine (table_any q h (by omega) HH.out _).mono ?_
      rintro e w2 ⟨rfl, hT, hfr1⟩
      have hs1 := hT.1
      have HT := hid hT
      have HFR1 := hid hfr1
      clear hT hfr1
      go_wp2
      go_region
      · -- X, Y
        go_wp2
        go_loopw [10] (fun i wr => ∃ k : Nat, k ≤ la ∧ i = .int .i64 k ∧ Own CV wr w2.heap.size pp (fun j => if j < k then ptsF la za j else (0, 0)) ∧ Own CV wr (w2.heap.size + 1) pp (fun _ => (0, 0)) ∧ Own CV wr w.heap.size h (tabF (q + 1)) ∧ Frm [] w wr) (fun i _ => la - (intOf i).toNat)
        case atStart => exact ⟨0, Nat.zero_le _, rfl, by simpa using ((two_made w2 pp).1), (two_made w2 pp).2, ((HT.out.alloc _).alloc _), ((HFR1.out.alloc _).alloc _).drew⟩
        case round =>
          obtain ⟨k, hk, rfl, hX, hY, hT, hfr⟩ := hrel
          by_cases hlt2 : k < la
          · have c2 : wr.cell? ⟨ab, aoff + k, none⟩ = some (.int .u8 (za k)) := (HRA.out.frame hfr hab (by simp)) k hlt2
            obtain ⟨old, c3, c4⟩ := hX.get (show k < pp by omega)
            have hst := ptsF_step hlt2 (by omega) hX
            have hY2 := hY.setCell_other (c := w2.heap.size) (i := k) (by omega) (.complex .f64 (fint (za k)) 0)
            have hT2 := hT.setCell_other (c := w2.heap.size) (i := k) (by omega) (.complex .f64 (fint (za k)) 0)
            have hfr2 := hfr.setCell (p := ⟨w2.heap.size, k, none⟩) (.inr (by simp; omega)) (.complex .f64 (fint (za k)) 0)
            have HST := hid hst
            have HY2 := hid hY2
            have HT2 := hid hT2
            have HFR2 := hid hfr2
            clear hst hY2 hT2 hfr2 hX hY hT hfr
            go_wp2
            go_roundw
            case rel => exact ⟨k + 1, by omega, by go_num, HST.out, HY2.out, HT2.out, HFR2.out⟩
            case measure => simp [intOf]; omega
          · have hX2 := ptsF_end (by omega) hX
            have HX2 := hid hX2
            have HY2 := hid hY
            have HT2 := hid hT
            have HFR2 := hid hfr
            clear hX hX2 hY hT hfr
            go_wp2
            go_loopw [11] (fun i wr => ∃ k : Nat, k ≤ lb ∧ i = .int .i64 k ∧ Own CV wr w2.heap.size pp (ptsF la za) ∧ Own CV wr (w2.heap.size + 1) pp (fun j => if j < k then ptsF lb zb j else (0, 0)) ∧ Own CV wr w.heap.size h (tabF (q + 1)) ∧ Frm [] w wr) (fun i _ => lb - (intOf i).toNat)
            case atStart => exact ⟨0, Nat.zero_le _, rfl, HX2.out, by simpa using HY2.out, HT2.out, HFR2.out⟩
            case round =>
              obtain ⟨k3, hk3, rfl, hX, hY, hT, hfr⟩ := hrel
              by_cases hlt3 : k3 < lb
              · have c2 : wr.cell? ⟨bb, boff + k3, none⟩ = some (.int .u8 (zb k3)) := (HRB.out.frame hfr hbb (by simp)) k3 hlt3
                obtain ⟨old, c3, c4⟩ := hY.get (show k3 < pp by omega)
                have hst := ptsF_step hlt3 (by omega) hY
                have hX2 := hX.setCell_other (c := (w2.heap.size + 1)) (i := k3) (by omega) (.complex .f64 (fint (zb k3)) 0)
                have hT2 := hT.setCell_other (c := (w2.heap.size + 1)) (i := k3) (by omega) (.complex .f64 (fint (zb k3)) 0)
                have hfr2 := hfr.setCell (p := ⟨(w2.heap.size + 1), k3, none⟩) (.inr (by simp; omega)) (.complex .f64 (fint (zb k3)) 0)
                have HST := hid hst
                have HX3 := hid hX2
                have HT3 := hid hT2
                have HFR3 := hid hfr2
                clear hst hX2 hT2 hfr2 hX hY hT hfr
                go_wp2
                go_roundw
                case rel => exact ⟨k3 + 1, by omega, by go_num, HX3.out, HST.out, HT3.out, HFR3.out⟩
                case measure => simp [intOf]; omega
              · have hY2 := ptsF_end (by omega) hY
                clear HX2 HY2 HT2 HFR2 hY
                go_wp2_with fail
                refine (forward_any (w2.heap.size) pp pp w.heap.size h h (q + 1) 8 (tabF (q + 1)) (ptsF la za) _ (by omega) (by omega) HN.out HH2.out (by omega) hT hX (by decide) (by decide) (by rw [HH.out]; exact HTB.out) (fun i _ => HPA.out i)).mono ?_
                rintro e w5 ⟨rfl, hX5, hfr6, hsz5⟩
                have hT5 := hT.frame hfr6 (by simp; omega)
                have hY5 := hY2.frame hfr6 (by simp)
                have hfr7 : Frm [] w w5 := hfr.seq hfr6 (by simp) (by intro i hi hl; simp at hi; omega)
                clear hT hX hY2 hfr hfr6 hsz5
                go_wp2_with fail
                refine (forward_any ((w2.heap.size + 1)) pp pp w.heap.size h h (q + 1) 8 (tabF (q + 1)) (ptsF lb zb) _ (by omega) (by omega) HN.out HH2.out (by omega) hT5 hY5 (by decide) (by decide) (by rw [HH.out]; exact HTB.out) (fun i _ => HPB.out i)).mono ?_
                rintro e w6 ⟨rfl, hY6, hfr8, hsz6⟩
                have hT6 := hT5.frame hfr8 (by simp; omega)
                have hX6 := hX5.frame hfr8 (by simp)
                have hfr9 : Frm [] w w6 := hfr7.seq hfr8 (by simp) (by intro i hi hl; simp at hi; omega)
                obtain ⟨FX, hFX⟩ : ∃ g, g = fwdF (q + 1) (tabF (q + 1)) (ptsF la za) := ⟨_, rfl⟩
                obtain ⟨FY, hFY⟩ : ∃ g, g = fwdF (q + 1) (tabF (q + 1)) (ptsF lb zb) := ⟨_, rfl⟩
                have hB1 : ∀ i, i < pp → Bd 74 (FX i) := by rw [hFX]; exact HBDS.out.1
                have hB2 : ∀ i, i < pp → Bd 74 (FY i) := by rw [hFY]; exact HBDS.out.2.1
                rw [← hFX] at hX6
                rw [← hFY] at hY6
                have HFX := hid hFX
                have HFY := hid hFY
                have HB1 := hid hB1
                have HB2 := hid hB2
                have HT6 := hid hT6
                have HX6 := hid hX6
                have HY6 := hid hY6
                have HFR9 := hid hfr9
                clear hT5 hX5 hY5 hfr7 hfr8 hFX hFY hB1 hB2 hT6 hX6 hY6 hfr9 hsz6
                go_wp2
                go_loopw [12] (fun i wr => ∃ k : Nat, k ≤ pp ∧ i = .int .i64 k ∧ Own CV wr w2.heap.size pp (fun j => if j < k then cmul (FX j) (FY j) else FX j) ∧ Own CV wr (w2.heap.size + 1) pp FY ∧ Own CV wr w.heap.size h (tabF (q + 1)) ∧ Frm [] w wr) (fun i _ => pp - (intOf i).toNat)
                case atStart => exact ⟨0, Nat.zero_le _, rfl, by simpa using HX6.out, HY6.out, HT6.out, HFR9.out⟩
                case round =>
                  obtain ⟨k4, hk4, rfl, hX, hY, hT, hfr⟩ := hrel
                  by_cases hlt4 : k4 < pp
                  · have c2 := hX.cell hlt4
                    rw [if_neg (Nat.lt_irrefl k4)] at c2
                    have c3 := hX.free hlt4
                    have c4 := hY.cell hlt4
                    have hmul := mul_any _ _ (HB1.out k4 hlt4) (HB2.out k4 hlt4) (by decide) (by decide)
                    have hst := hX.step hlt4 (v := CV (cmul (FX k4) (FY k4))) rfl
                    have hY2 := hY.setCell_other (c := w2.heap.size) (i := k4) (by omega) (CV (cmul (FX k4) (FY k4)))
                    have hT2 := hT.setCell_other (c := w2.heap.size) (i := k4) (by omega) (CV (cmul (FX k4) (FY k4)))
                    have hfr2 := hfr.setCell (p := ⟨w2.heap.size, k4, none⟩) (.inr (by simp; omega)) (CV (cmul (FX k4) (FY k4)))
                    have HST := hid hst
                    have HY2 := hid hY2
                    have HT2 := hid hT2
                    have HFR2 := hid hfr2
                    clear hst hY2 hT2 hfr2 hX hY hT hfr
                    have b5 : (0 : Int) ≤ (k4 : Int) := by omega
                    have b6 : (k4 : Int) < (pp : Int) := by omega
                    go_wp2
                    go_region_with (go_at_call 70; refine same_mono (hmul _) ?_)
                    all_goals go_wp2
                    all_goals
                      go_roundw
                      case rel => exact ⟨k4 + 1, by omega, by go_num, HST.out.drew, HY2.out.drew, HT2.out.drew, HFR2.out.drew⟩
                      case measure => simp [intOf]; omega
                  · have hX2 := hX.full (by omega)
                    have hinv := inverse_any (w2.heap.size) pp pp w.heap.size h h (q + 1) 151 (tabF (q + 1)) (fun i => cmul (FX i) (FY i)) wr (by omega) (by omega) HN.out HH2.out (by omega) hT hX2 (by decide) (by decide) (by rw [HH.out]; exact HTB.out) (fun i hi => ((HB1.out i hi).mul (HB2.out i hi) (by decide) (by decide)).mono (by decide))
                    have HINV := hid hinv
                    have HFR := hid hfr
                    clear hinv hX hX2 hY hT hfr
                    go_wp2_with fail
                    refine Calls.mono HINV.out ?_
                    rintro e w7 ⟨rfl, hown7, hfr7⟩
                    go_wp2
                    go_ret
                    refine ⟨w2.heap.size, rfl, by omega, ?_, HFR.out.seq hfr7 (by simp) (by intro i hi hl; simp at hi; omega)⟩
                    unfold rawF
                    rw [← HFX.out, ← HFY.out]
                    exact hown7
      · -- X, Y
        go_wp2
        go_loopw [10] (fun i wr => ∃ k : Nat, k ≤ la ∧ i = .int .i64 k ∧ Own CV wr (w2.heap.size + 1) pp (fun j => if j < k then ptsF la za j else (0, 0)) ∧ Own CV wr w2.heap.size pp (fun _ => (0, 0)) ∧ Own CV wr w.heap.size h (tabF (q + 1)) ∧ Frm [] w wr) (fun i _ => la - (intOf i).toNat)
        case atStart => exact ⟨0, Nat.zero_le _, rfl, by simpa using (two_made w2 pp).2, ((two_made w2 pp).1), ((HT.out.alloc _).alloc _), ((HFR1.out.alloc _).alloc _).drew⟩
        case round =>
          obtain ⟨k, hk, rfl, hX, hY, hT, hfr⟩ := hrel
          by_cases hlt2 : k < la
          · have c2 : wr.cell? ⟨ab, aoff + k, none⟩ = some (.int .u8 (za k)) := (HRA.out.frame hfr hab (by simp)) k hlt2
            obtain ⟨old, c3, c4⟩ := hX.get (show k < pp by omega)
            have hst := ptsF_step hlt2 (by omega) hX
            have hY2 := hY.setCell_other (c := (w2.heap.size + 1)) (i := k) (by omega) (.complex .f64 (fint (za k)) 0)
            have hT2 := hT.setCell_other (c := (w2.heap.size + 1)) (i := k) (by omega) (.complex .f64 (fint (za k)) 0)
            have hfr2 := hfr.setCell (p := ⟨(w2.heap.size + 1), k, none⟩) (.inr (by simp; omega)) (.complex .f64 (fint (za k)) 0)
            have HST := hid hst
            have HY2 := hid hY2
            have HT2 := hid hT2
            have HFR2 := hid hfr2
            clear hst hY2 hT2 hfr2 hX hY hT hfr
            go_wp2
            go_roundw
            case rel => exact ⟨k + 1, by omega, by go_num, HST.out, HY2.out, HT2.out, HFR2.out⟩
            case measure => simp [intOf]; omega
          · have hX2 := ptsF_end (by omega) hX
            have HX2 := hid hX2
            have HY2 := hid hY
            have HT2 := hid hT
            have HFR2 := hid hfr
            clear hX hX2 hY hT hfr
            go_wp2
            go_loopw [11] (fun i wr => ∃ k : Nat, k ≤ lb ∧ i = .int .i64 k ∧ Own CV wr (w2.heap.size + 1) pp (ptsF la za) ∧ Own CV wr w2.heap.size pp (fun j => if j < k then ptsF lb zb j else (0, 0)) ∧ Own CV wr w.heap.size h (tabF (q + 1)) ∧ Frm [] w wr) (fun i _ => lb - (intOf i).toNat)
            case atStart => exact ⟨0, Nat.zero_le _, rfl, HX2.out, by simpa using HY2.out, HT2.out, HFR2.out⟩
            case round =>
              obtain ⟨k3, hk3, rfl, hX, hY, hT, hfr⟩ := hrel
              by_cases hlt3 : k3 < lb
              · have c2 : wr.cell? ⟨bb, boff + k3, none⟩ = some (.int .u8 (zb k3)) := (HRB.out.frame hfr hbb (by simp)) k3 hlt3
                obtain ⟨old, c3, c4⟩ := hY.get (show k3 < pp by omega)
                have hst := ptsF_step hlt3 (by omega) hY
                have hX2 := hX.setCell_other (c := w2.heap.size) (i := k3) (by omega) (.complex .f64 (fint (zb k3)) 0)
                have hT2 := hT.setCell_other (c := w2.heap.size) (i := k3) (by omega) (.complex .f64 (fint (zb k3)) 0)
                have hfr2 := hfr.setCell (p := ⟨w2.heap.size, k3, none⟩) (.inr (by simp; omega)) (.complex .f64 (fint (zb k3)) 0)
                have HST := hid hst
                have HX3 := hid hX2
                have HT3 := hid hT2
                have HFR3 := hid hfr2
                clear hst hX2 hT2 hfr2 hX hY hT hfr
                go_wp2
                go_roundw
                case rel => exact ⟨k3 + 1, by omega, by go_num, HX3.out, HST.out, HT3.out, HFR3.out⟩
                case measure => simp [intOf]; omega
              · have hY2 := ptsF_end (by omega) hY
                clear HX2 HY2 HT2 HFR2 hY
                go_wp2_with fail
                refine (forward_any ((w2.heap.size + 1)) pp pp w.heap.size h h (q + 1) 8 (tabF (q + 1)) (ptsF la za) _ (by omega) (by omega) HN.out HH2.out (by omega) hT hX (by decide) (by decide) (by rw [HH.out]; exact HTB.out) (fun i _ => HPA.out i)).mono ?_
                rintro e w5 ⟨rfl, hX5, hfr6, hsz5⟩
                have hT5 := hT.frame hfr6 (by simp; omega)
                have hY5 := hY2.frame hfr6 (by simp)
                have hfr7 : Frm [] w w5 := hfr.seq hfr6 (by simp) (by intro i hi hl; simp at hi; omega)
                clear hT hX hY2 hfr hfr6 hsz5
                go_wp2_with fail
                refine (forward_any (w2.heap.size) pp pp w.heap.size h h (q + 1) 8 (tabF (q + 1)) (ptsF lb zb) _ (by omega) (by omega) HN.out HH2.out (by omega) hT5 hY5 (by decide) (by decide) (by rw [HH.out]; exact HTB.out) (fun i _ => HPB.out i)).mono ?_
                rintro e w6 ⟨rfl, hY6, hfr8, hsz6⟩
                have hT6 := hT5.frame hfr8 (by simp; omega)
                have hX6 := hX5.frame hfr8 (by simp)
                have hfr9 : Frm [] w w6 := hfr7.seq hfr8 (by simp) (by intro i hi hl; simp at hi; omega)
                obtain ⟨FX, hFX⟩ : ∃ g, g = fwdF (q + 1) (tabF (q + 1)) (ptsF la za) := ⟨_, rfl⟩
                obtain ⟨FY, hFY⟩ : ∃ g, g = fwdF (q + 1) (tabF (q + 1)) (ptsF lb zb) := ⟨_, rfl⟩
                have hB1 : ∀ i, i < pp → Bd 74 (FX i) := by rw [hFX]; exact HBDS.out.1
                have hB2 : ∀ i, i < pp → Bd 74 (FY i) := by rw [hFY]; exact HBDS.out.2.1
                rw [← hFX] at hX6
                rw [← hFY] at hY6
                have HFX := hid hFX
                have HFY := hid hFY
                have HB1 := hid hB1
                have HB2 := hid hB2
                have HT6 := hid hT6
                have HX6 := hid hX6
                have HY6 := hid hY6
                have HFR9 := hid hfr9
                clear hT5 hX5 hY5 hfr7 hfr8 hFX hFY hB1 hB2 hT6 hX6 hY6 hfr9 hsz6
                go_wp2
                go_loopw [12] (fun i wr => ∃ k : Nat, k ≤ pp ∧ i = .int .i64 k ∧ Own CV wr (w2.heap.size + 1) pp (fun j => if j < k then cmul (FX j) (FY j) else FX j) ∧ Own CV wr w2.heap.size pp FY ∧ Own CV wr w.heap.size h (tabF (q + 1)) ∧ Frm [] w wr) (fun i _ => pp - (intOf i).toNat)
                case atStart => exact ⟨0, Nat.zero_le _, rfl, by simpa using HX6.out, HY6.out, HT6.out, HFR9.out⟩
                case round =>
                  obtain ⟨k4, hk4, rfl, hX, hY, hT, hfr⟩ := hrel
                  by_cases hlt4 : k4 < pp
                  · have c2 := hX.cell hlt4
                    rw [if_neg (Nat.lt_irrefl k4)] at c2
                    have c3 := hX.free hlt4
                    have c4 := hY.cell hlt4
                    have hmul := mul_any _ _ (HB1.out k4 hlt4) (HB2.out k4 hlt4) (by decide) (by decide)
                    have hst := hX.step hlt4 (v := CV (cmul (FX k4) (FY k4))) rfl
                    have hY2 := hY.setCell_other (c := (w2.heap.size + 1)) (i := k4) (by omega) (CV (cmul (FX k4) (FY k4)))
                    have hT2 := hT.setCell_other (c := (w2.heap.size + 1)) (i := k4) (by omega) (CV (cmul (FX k4) (FY k4)))
                    have hfr2 := hfr.setCell (p := ⟨(w2.heap.size + 1), k4, none⟩) (.inr (by simp; omega)) (CV (cmul (FX k4) (FY k4)))
                    have HST := hid hst
                    have HY2 := hid hY2
                    have HT2 := hid hT2
                    have HFR2 := hid hfr2
                    clear hst hY2 hT2 hfr2 hX hY hT hfr
                    have b5 : (0 : Int) ≤ (k4 : Int) := by omega
                    have b6 : (k4 : Int) < (pp : Int) := by omega
                    go_wp2
                    go_region_with (go_at_call 70; refine same_mono (hmul _) ?_)
                    all_goals go_wp2
                    all_goals
                      go_roundw
                      case rel => exact ⟨k4 + 1, by omega, by go_num, HST.out.drew, HY2.out.drew, HT2.out.drew, HFR2.out.drew⟩
                      case measure => simp [intOf]; omega
                  · have hX2 := hX.full (by omega)
                    have hinv := inverse_any ((w2.heap.size + 1)) pp pp w.heap.size h h (q + 1) 151 (tabF (q + 1)) (fun i => cmul (FX i) (FY i)) wr (by omega) (by omega) HN.out HH2.out (by omega) hT hX2 (by decide) (by decide) (by rw [HH.out]; exact HTB.out) (fun i hi => ((HB1.out i hi).mul (HB2.out i hi) (by decide) (by decide)).mono (by decide))
                    have HINV := hid hinv
                    have HFR := hid hfr
                    clear hinv hX hX2 hY hT hfr
                    go_wp2_with fail
                    refine Calls.mono HINV.out ?_
                    rintro e w7 ⟨rfl, hown7, hfr7⟩
                    go_wp2
                    go_ret
                    refine ⟨(w2.heap.size + 1), rfl, by omega, ?_, HFR.out.seq hfr7 (by simp) (by intro i hi hl; simp at hi; omega)⟩
                    unfold rawF
                    rw [← HFX.out, ← HFY.out]
                    exact hown7
end Go.Proofs.Ygctaf
