/-
  WALK: fftx.ConvolveAny
-/
import Derived.Test.YgctafCva
import Derived.Test.YgctafAnyBack
import Derived.BigRegion
import Derived.Deep.RegionWith
namespace Go.Proofs.Ygctaf
open Go.RowKit Ieee
attribute [local go_sem] run_store_complex run_store_float CV_eq FV_eq

set_option maxRecDepth 20000 in
set_option maxHeartbeats 4000000 in
theorem convolveAny_any (ab aoff la acap bb boff lb bcap : Nat) (za zb : Nat → Int) (w : World) (ha1 : 1 ≤ la) (ha2 : la ≤ 512) (hb1 : 1 ≤ lb) (hb2 : lb ≤ 512)
    (hab : ab < w.heap.size) (hbb : bb < w.heap.size) (hra : Rd (Value.int .u8) w ab aoff la za) (hrb : Rd (Value.int .u8) w bb boff lb zb)
    (va : ∀ i, i < la → 0 ≤ za i ∧ za i ≤ 255) (vb : ∀ i, i < lb → 0 ≤ zb i ∧ zb i ≤ 255) (m : Nat) (hm : m + 1 = la + lb) :
    Calls Tafg.prog 68 #[.slice (some ⟨ab, aoff, none⟩) la acap, .slice (some ⟨bb, boff, none⟩) lb bcap] w fun e w' =>
      ∃ C, e = .returned (.tuple #[.slice (some ⟨C, 0, none⟩) m m, .bool true]) ∧ w.heap.size ≤ C ∧ Own (Value.int .i64) w' C m (convZ za zb lb la) ∧ Frm [] w w' := by
  have hm0 : 0 < m := by omega
  have hmb : m ≤ 1023 := by omega
  obtain ⟨q, hq, hlv⟩ := any_lvl m (by omega)
  have hN : 2 * m ≤ 2 ^ (q + 1) + 1 := by have := hlv.1; omega
  have em : la + lb - 1 = m := by omega
  have hcr := cva_right hm hq hN ha2 hb2 ha1 hb1 va vb (P := fun j => cmul (blF q m (ptsF la za) (chF m) j) (blF q m (ptsF lb zb) (chF m) j)) (fun _ _ => rfl)
  have hsu := cvs_sure (n := m) (R := iaF q m (fun j => cmul (blF q m (ptsF la za) (chF m) j) (blF q m (ptsF lb zb) (chF m) j)) (chF m)) ha1 hb1 ha2 va vb hcr.2
  rw [em] at hsu
  have HB1 := hid (blF_bd hq hN (e := 8) (x := ptsF la za) (by decide) (by decide) (fun i _ => ptsF_bd va i) (fun i _ => chF_bd (j := i) hm0 (by omega)))
  have HB2 := hid (blF_bd hq hN (e := 8) (x := ptsF lb zb) (by decide) (by decide) (fun i _ => ptsF_bd vb i) (fun i _ => chF_bd (j := i) hm0 (by omega)))
  have HPA := hid (ptsF_bd va)
  have HPB := hid (ptsF_bd vb)
  have HCH := hid (fun i (_ : i < m) => chF_bd (j := i) hm0 (show m ≤ 1024 by omega))
  obtain ⟨FX, hFX⟩ : ∃ F, F = blF q m (ptsF la za) (chF m) := ⟨_, rfl⟩
  obtain ⟨FY, hFY⟩ : ∃ F, F = blF q m (ptsF lb zb) (chF m) := ⟨_, rfl⟩
  rw [← hFX] at HB1 hcr hsu
  rw [← hFY] at HB2 hcr hsu
  have HFX := hid hFX
  have HFY := hid hFY
  have HPP := hid hcr.1
  have HSU := hid hsu
  have e1 : (la : Int) + (lb : Int) - 1 = (m : Int) := by omega
  have hml : la ≤ m ∧ lb ≤ m := by omega
  obtain ⟨hla, hlb⟩ := hml
  have HLV := hid hlv
  have HRA := hid hra
  have HRB := hid hrb
  clear hlv hra hrb va vb em hm hN hcr hsu hFX hFY
  go_enter Tafg.func68, Tafg.ntmps68
  go_wp2_with fail
  refine same_mono (admitted_good _ _ la acap lb bcap _ ha1 hb1 ha2 hb2) ?_
  go_wp2_with fail
  refine (chirp_any m hm0 (by omega) _).mono ?_
  rintro e w2 ⟨rfl, hT, hfr1⟩
  have hs1 := hT.1
  have HT := hid hT
  have HFR1 := hid hfr1
  clear hT hfr1
  go_wp2_with fail
  refine (pointsx_any ab aoff la acap m za _ (by omega) (by omega) (by omega) (HRA.out.frame HFR1.out hab (by simp))).mono ?_
  rintro e w3 ⟨rfl, hX, hfr2, hsz2⟩
  have hfr3 : Frm [] w w3 := HFR1.out.trans hfr2
  have hT3 := HT.out.frame hfr2 (by simp)
  go_wp2_with fail
  refine (bluestein_any w2.heap.size m w.heap.size m m q (2 ^ (q + 1)) 8 (ptsF la za) (chF m) w3 hm0 (by omega) hq HLV.out rfl hX hT3 (by decide) (by decide) (fun i _ => HPA.out i) HCH.out).mono ?_
  rintro e w4 ⟨X, rfl, hXb, hX4, hfr4⟩
  have hT4 := hT3.frame hfr4 (by simp)
  have hfr5 := hfr3.trans hfr4
  rw [← HFX.out] at hX4
  have hs4 := hX4.1
  have hsz4 := hfr4.size
  clear hX hT3 hfr2 hfr3 hfr4
  go_wp2_with fail
  refine (pointsx_any bb boff lb bcap m zb w4 (by omega) (by omega) (by omega) (HRB.out.frame hfr5 hbb (by simp))).mono ?_
  rintro e w5 ⟨rfl, hY, hfr6, hsz5⟩
  have hT5 := hT4.frame hfr6 (by simp)
  have hX5 := hX4.frame hfr6 (by simp)
  have hfr7 := hfr5.trans hfr6
  clear hT4 hX4 hfr5 hfr6
  go_wp2_with fail
  refine (bluestein_any w4.heap.size m w.heap.size m m q (2 ^ (q + 1)) 8 (ptsF lb zb) (chF m) w5 hm0 (by omega) hq HLV.out rfl hY hT5 (by decide) (by decide) (fun i _ => HPB.out i) HCH.out).mono ?_
  rintro e w6 ⟨Y, rfl, hYb, hY6, hfr8⟩
  have hT6 := hT5.frame hfr8 (by simp)
  have hX6 := hX5.frame hfr8 (by simp)
  have hfr9 := hfr7.trans hfr8
  rw [← HFY.out] at hY6
  have hXY : X ≠ Y := by omega
  have hXT : X ≠ w.heap.size := by omega
  have hXl : w.heap.size ≤ X := by omega
  have HT6 := hid hT6
  have HX6 := hid hX6
  have HY6 := hid hY6
  have HFR9 := hid hfr9
  clear hT5 hX5 hY hfr7 hfr8 hT6 hX6 hY6 hfr9 HT HFR1 hsz2 hsz4 hsz5 hXb hYb hs4
  go_wp2
  go_loopw [12] (fun i wr => ∃ k : Nat, k ≤ m ∧ i = .int .i64 k ∧ Own CV wr X m (fun j => if j < k then cmul (FX j) (FY j) else FX j) ∧ Own CV wr Y m FY ∧ Own CV wr w.heap.size m (chF m) ∧ Frm [] w wr) (fun i _ => m - (intOf i).toNat)
  case atStart => exact ⟨0, Nat.zero_le _, rfl, by simpa using HX6.out, HY6.out, HT6.out, HFR9.out⟩
  case round =>
    obtain ⟨k, hk, rfl, hX, hY, hT, hfr⟩ := hrel
    by_cases hlt : k < m
    · have c1 := hX.cell hlt
      rw [if_neg (Nat.lt_irrefl k)] at c1
      have c2 := hX.free hlt
      have c3 := hY.cell hlt
      have hmul := mul_any _ _ (HB1.out k hlt) (HB2.out k hlt) (by decide) (by decide)
      have hst := hX.step (f := fun j => cmul (FX j) (FY j)) hlt (v := CV (cmul (FX k) (FY k))) rfl
      have hY2 := hY.setCell_other (c := X) (i := k) hXY (CV (cmul (FX k) (FY k)))
      have hT2 := hT.setCell_other (c := X) (i := k) hXT (CV (cmul (FX k) (FY k)))
      have hfr2 := hfr.setCell (p := ⟨X, k, none⟩) (.inr hXl) (CV (cmul (FX k) (FY k)))
      have HST := hid hst
      have HY2 := hid hY2
      have HT2 := hid hT2
      have HFR2 := hid hfr2
      clear hst hY2 hT2 hfr2 hX hY hT hfr
      have b5 : (0 : Int) ≤ (k : Int) := by omega
      have b6 : (k : Int) < (m : Int) := by omega
      go_wp2
      go_region_with (first | (go_at_call 70; refine same_mono (hmul _) ?_))
      all_goals go_wp2
      all_goals
        go_roundw
        case rel => exact ⟨k + 1, by omega, by go_num, HST.out.drew, HY2.out.drew, HT2.out.drew, HFR2.out.drew⟩
        case measure => simp [intOf]; omega
    · have hX2 := hX.full (f := fun j => cmul (FX j) (FY j)) (by omega)
      have hiv := inverseX_any X m w.heap.size m m q 441 (fun j => cmul (FX j) (FY j)) (chF m) wr hm0 (by omega) hq HLV.out hX2 hT (by decide) (by decide) HPP.out HCH.out
      have HINV := hid hiv
      have HFR := hid hfr
      clear hiv hX hX2 hY hT hfr HX6 HY6 HT6 HFR9
      go_wp2_with fail
      refine Calls.mono HINV.out ?_
      rintro e w7 ⟨B, rfl, hBb, hB, hfr10⟩
      have hFR2 := HFR.out.trans hfr10
      have hs8 := hFR2.size
      have HRD := hid (roundAll_pos B m m m _ w7 hm0 (Nat.le_refl _) (by omega) hB)
      have HFR2 := hid hFR2
      clear hB hfr10 HINV HFR hFR2
      go_wp2_with fail
      refine Calls.mono HRD.out ?_
      rintro e w8 ⟨rfl, hown4, hfr4⟩
      obtain ⟨s1, s2⟩ := HSU.out
      have s3 := s2 m (Nat.le_refl _)
      have hown5 := hown4.congr (g := convZ za zb lb la) (fun i hi => by rw [s1 i (by omega)])
      rw [s3]
      have HO5 := hid hown5
      have HFR5 := hid (HFR2.out.trans hfr4)
      clear hown4 hfr4 hown5 s1 s2 s3 HSU HRD HFR2
      go_wp2
      go_ret2
      exact ⟨w7.heap.size, rfl, hs8, HO5.out, HFR5.out⟩
end Go.Proofs.Ygctaf
