/-
  WALK: fftx.ConvolveReal
-/
import Derived.Test.YgctafCvr
import Derived.BigRegion
import Derived.Deep.RegionWith
namespace Go.Proofs.Ygctaf
open Go.RowKit Ieee
attribute [local go_sem] run_store_complex run_store_float CV_eq FV_eq

theorem fr_bd {q m la : Nat} {za : Nat → Int} (hq : q ≤ 9) (hm : m = 2 ^ q) (va : ∀ i, i < la → 0 ≤ za i ∧ za i ≤ 255) (kk : Nat) (hkk : kk ≤ m) : Bd 82 (frO (q + 1) m (tabF (q + 1)) (rlsF la za) kk) :=
  (fr_near (f := rlsF la za) (L := 361) (e := 8) (by omega) (by omega) hm hkk (by decide) (by decide) (by decide +kernel) (fun i _ => rls_bd va i) (fun j _ => rls_len va j)).bd

set_option maxRecDepth 20000 in
set_option maxHeartbeats 4000000 in
theorem convolveReal_any (ab aoff la acap bb boff lb bcap q n : Nat) (za zb : Nat → Int) (w : World) (ha1 : 1 ≤ la) (ha2 : la ≤ 512) (hb1 : 1 ≤ lb) (hb2 : lb ≤ 512) (hq : q ≤ 9) (hlv : IsLvl (la + lb - 1) q) (hn : n = 2 ^ (q + 1))
    (hab : ab < w.heap.size) (hbb : bb < w.heap.size) (hra : Rd (Value.int .u8) w ab aoff la za) (hrb : Rd (Value.int .u8) w bb boff lb zb)
    (va : ∀ i, i < la → 0 ≤ za i ∧ za i ≤ 255) (vb : ∀ i, i < lb → 0 ≤ zb i ∧ zb i ≤ 255) (m : Nat) (hm : m + 1 = la + lb) :
    Calls Tafg.prog 67 #[.slice (some ⟨ab, aoff, none⟩) la acap, .slice (some ⟨bb, boff, none⟩) lb bcap] w fun e w' =>
      ∃ C, e = .returned (.tuple #[.slice (some ⟨C, 0, none⟩) m m, .bool true]) ∧ w.heap.size ≤ C ∧ Own (Value.int .i64) w' C m (convZ za zb lb la) ∧ Frm [] w w' := by
  obtain ⟨h, hh⟩ : ∃ h, h = 2 ^ q := ⟨_, rfl⟩
  have hh2 : n = 2 * h := by rw [hh, hn, Nat.pow_succ, Nat.mul_comm]
  have hl : la + lb ≤ 2 * h + 1 := by have := hlv.1; rw [← hn, hh2] at this; omega
  have hb3 : n ≤ 1024 := by
    have : 2 ^ (q + 1) ≤ 2 ^ 10 := Nat.pow_le_pow_right (by decide) (by omega)
    omega
  have hmn : m ≤ n := by omega
  have em : la + lb - 1 = m := by omega
  have HB1 := hid (fr_bd hq hh va)
  have HB2 := hid (fr_bd hq hh vb)
  have hcr := cvr_right hq hh ha2 hl ha1 hb1 va vb (g := fun kk => cmul (frO (q + 1) h (tabF (q + 1)) (rlsF la za) kk) (frO (q + 1) h (tabF (q + 1)) (rlsF lb zb) kk)) (fun _ _ => rfl)
  have hsu := cvs_sure (n := n) (R := fun i => (irO (q + 1) h (tabF (q + 1)) (fun kk => cmul (frO (q + 1) h (tabF (q + 1)) (rlsF la za) kk) (frO (q + 1) h (tabF (q + 1)) (rlsF lb zb) kk)) i, 0)) ha1 hb1 ha2 va vb (fun i hi => hcr.2 i (by omega))
  rw [em] at hsu hlv
  have HRA1 := hid (fun i => rls_bd va i)
  have HRB1 := hid (fun i => rls_bd vb i)
  obtain ⟨FX, hFX⟩ : ∃ F, F = frO (q + 1) h (tabF (q + 1)) (rlsF la za) := ⟨_, rfl⟩
  obtain ⟨FY, hFY⟩ : ∃ F, F = frO (q + 1) h (tabF (q + 1)) (rlsF lb zb) := ⟨_, rfl⟩
  rw [← hFX] at HB1 hcr hsu
  rw [← hFY] at HB2 hcr hsu
  obtain ⟨Z, hZ⟩ : ∃ Z, Z = irO (q + 1) h (tabF (q + 1)) (fun kk => cmul (FX kk) (FY kk)) := ⟨_, rfl⟩
  rw [← hZ] at hsu
  have HFX := hid hFX
  have HFY := hid hFY
  have HZ := hid hZ
  have HPB := hid hcr.1
  have HSU := hid hsu
  have HTB := hid (tabF_bd q (by omega))
  have e1 : (la : Int) + (lb : Int) - 1 = (m : Int) := by omega
  have e2 : 2 * (h : Int) = (n : Int) := by omega
  have hml : la ≤ n ∧ lb ≤ n := by omega
  obtain ⟨hla, hlb⟩ := hml
  have hm0 : 0 < m := by omega
  have hhb : h ≤ 512 := by omega
  obtain ⟨t, ht⟩ : ∃ t, t = h + 1 := ⟨_, rfl⟩
  have HH2 := hid hh2
  have HN := hid hn
  have HH := hid hh
  have HLV := hid hlv
  have HRA := hid hra
  have HRB := hid hrb
  have HTT := hid ht
  have htb : t ≤ 513 := by omega
  have hmk := make_c n (by omega)
  clear hh2 hlv hn hh hra hrb va vb em hm hl hcr hsu hFX hFY hZ ht
  go_enter Tafg.func67, Tafg.ntmps67
  go_wp2_with fail
  refine same_mono (admitted_good _ _ la acap lb bcap _ ha1 hb1 ha2 hb2) ?_
  go_wp2_with fail
  refine same_mono (levels_any m q _ (by omega) HLV.out) ?_
  go_wp2_with fail
  refine (table_any q h (by omega) HH.out _).mono ?_
  rintro e w2 ⟨rfl, hT, hfr1⟩
  have hs1 := hT.1
  have HT := hid hT
  have HFR1 := hid hfr1
  clear hT hfr1
  go_wp2_with fail
  refine (reals_any ab aoff la acap n za _ (by omega) (by omega) (by omega) (HRA.out.frame HFR1.out hab (by simp))).mono ?_
  rintro e w3 ⟨rfl, hX, hfr2, hsz2⟩
  have hfr3 : Frm [] w w3 := HFR1.out.trans hfr2
  have hT3 := HT.out.frame hfr2 (by simp)
  go_wp2_with fail
  refine (forwardReal_any w2.heap.size n n w.heap.size h h (q + 1) 8 (tabF (q + 1)) (rlsF la za) w3 (by omega) (by omega) HH.out HH2.out (by decide) (by decide) hT3 hX (by rw [HH.out]; exact HTB.out) (fun i _ => HRA1.out i)).mono ?_
  rintro e w4 ⟨X, rfl, hXb, hX4, hfr4⟩
  have hT4 := hT3.frame hfr4 (by simp)
  have hfr5 := hfr3.trans hfr4
  rw [← HFX.out] at hX4
  have hs4 := hX4.1
  have hsz4 := hfr4.size
  clear hX hT3 hfr2 hfr3 hfr4
  go_wp2_with fail
  refine (reals_any bb boff lb bcap n zb w4 (by omega) (by omega) (by omega) (HRB.out.frame hfr5 hbb (by simp))).mono ?_
  rintro e w5 ⟨rfl, hY, hfr6, hsz5⟩
  have hT5 := hT4.frame hfr6 (by simp)
  have hX5 := hX4.frame hfr6 (by simp)
  have hfr7 := hfr5.trans hfr6
  clear hT4 hX4 hfr5 hfr6
  go_wp2_with fail
  refine (forwardReal_any w4.heap.size n n w.heap.size h h (q + 1) 8 (tabF (q + 1)) (rlsF lb zb) w5 (by omega) (by omega) HH.out HH2.out (by decide) (by decide) hT5 hY (by rw [HH.out]; exact HTB.out) (fun i _ => HRB1.out i)).mono ?_
  rintro e w6 ⟨Y, rfl, hYb, hY6, hfr8⟩
  have hT6 := hT5.frame hfr8 (by simp)
  have hX6 := hX5.frame hfr8 (by simp)
  have hfr9 := hfr7.trans hfr8
  rw [← HFY.out] at hY6
  have hXY : X ≠ Y := by omega
  have hXT : X ≠ w.heap.size := by omega
  have hXl : w.heap.size ≤ X := by omega
  have hXs := hX6.1
  have hsz6 := hfr8.size
  rw [← HTT.out] at hX6 hY6
  rw [← HTT.out]
  have HT6 := hid hT6
  have HX6 := hid hX6
  have HY6 := hid hY6
  have HFR9 := hid hfr9
  clear hT5 hX5 hY hfr7 hfr8 hT6 hX6 hY6 hfr9 HT HFR1 hsz2 hsz4 hsz5 hsz6 hXb hYb hs4 hXs
  go_wp2
  go_loopw [12] (fun i wr => ∃ k : Nat, k ≤ t ∧ i = .int .i64 k ∧ Own CV wr X t (fun j => if j < k then cmul (FX j) (FY j) else FX j) ∧ Own CV wr Y t FY ∧ Own CV wr w.heap.size h (tabF (q + 1)) ∧ Frm [] w wr) (fun i _ => t - (intOf i).toNat)
  case atStart => exact ⟨0, Nat.zero_le _, rfl, by simpa using HX6.out, HY6.out, HT6.out, HFR9.out⟩
  case round =>
    obtain ⟨k, hk, rfl, hX, hY, hT, hfr⟩ := hrel
    by_cases hlt : k < t
    · have c1 := hX.cell hlt
      rw [if_neg (Nat.lt_irrefl k)] at c1
      have c2 := hX.free hlt
      have c3 := hY.cell hlt
      have hkh : k ≤ h := by have := HTT.out; omega
      have hmul := mul_any _ _ (HB1.out k hkh) (HB2.out k hkh) (by decide) (by decide)
      have hst := hX.step (f := fun j => cmul (FX j) (FY j)) hlt (v := CV (cmul (FX k) (FY k))) rfl
      have hY2 := hY.setCell_other (c := X) (i := k) hXY (CV (cmul (FX k) (FY k)))
      have hT2 := hT.setCell_other (c := X) (i := k) hXT (CV (cmul (FX k) (FY k)))
      have hfr2 := hfr.setCell (p := ⟨X, k, none⟩) (.inr hXl) (CV (cmul (FX k) (FY k)))
      have HST := hid hst
      have HY2 := hid hY2
      have HT2 := hid hT2
      have HFR2 := hid hfr2
      clear hst hY2 hT2 hfr2 hX hY hT hfr hkh
      have b5 : (0 : Int) ≤ (k : Int) := by omega
      have b6 : (k : Int) < (t : Int) := by omega
      go_wp2
      go_region_with (first | (go_at_call 70; refine same_mono (hmul _) ?_))
      all_goals go_wp2
      all_goals
        go_roundw
        case rel => exact ⟨k + 1, by omega, by go_num, HST.out.drew, HY2.out.drew, HT2.out.drew, HFR2.out.drew⟩
        case measure => simp [intOf]; omega
    · have hX2 := hX.full (f := fun j => cmul (FX j) (FY j)) (by omega)
      rw [HTT.out] at hX2
      have hir := inverseReal_any X t w.heap.size h h (q + 1) n 167 (tabF (q + 1)) (fun j => cmul (FX j) (FY j)) wr (by omega) (by omega) HH.out HH2.out (by decide) (by decide) hT hX2 (by rw [HH.out]; exact HTB.out) (fun i hi => HPB.out i (by omega))
      rw [← HZ.out, ← HTT.out] at hir
      have HINV := hid hir
      have HFR := hid hfr
      clear hir hX hX2 hY hT hfr HX6 HY6 HT6 HFR9
      go_wp2_with fail
      refine Calls.mono HINV.out ?_
      rintro e w7 ⟨B, rfl, hBb, hB, hfr10⟩
      have HB := hid hB
      have HFR2 := hid (HFR.out.trans hfr10)
      have hs7 := (HFR.out.trans hfr10).size
      clear hB hfr10 HINV HFR
      go_wp2
      go_loopw [15] (fun i wr => ∃ k2 : Nat, k2 ≤ n ∧ i = .int .i64 k2 ∧ Own CV wr w7.heap.size n (fun j => if j < k2 then (Z j, 0) else (0, 0)) ∧ Own FV wr B n Z ∧ Frm [] w wr) (fun i _ => n - (intOf i).toNat)
      case atStart => exact ⟨0, Nat.zero_le _, rfl, by simpa using Own.madeC, HB.out.alloc _, HFR2.out.alloc _⟩
      case round =>
        obtain ⟨j, hj, rfl, hown3, hB3, hfr3⟩ := hrel
        by_cases hlj : j < n
        · have c1 := hB3.cell hlj
          obtain ⟨old, c3, c4⟩ := hown3.get hlj
          have hBl := HB.out.1
          have HST := hid (hown3.step (f := fun j => (Z j, 0)) hlj (v := .complex .f64 (Z j) 0) rfl)
          have HB4 := hid (hB3.setCell_other (c := w7.heap.size) (i := j) (by omega) (.complex .f64 (Z j) 0))
          have HFR := hid hfr3
          clear hown3 hfr3 hB3 hBl
          go_wp2
          go_roundw
          case rel => exact ⟨j + 1, by omega, by go_num, HST.out, HB4.out, HFR.out.setCell (.inr hs7) _⟩
          case measure => simp [intOf]; omega
        · have hR := hown3.full (f := fun j => (Z j, 0)) (by omega)
          have hs8 := hfr3.size
          have HRD := hid (roundAll_pos w7.heap.size n n m _ wr hm0 hmn (by omega) hR)
          have HFR := hid hfr3
          clear hown3 hfr3 hR hB3
          go_wp2_with fail
          refine Calls.mono HRD.out ?_
          rintro e w8 ⟨rfl, hown4, hfr4⟩
          obtain ⟨s1, s2⟩ := HSU.out
          have s3 := s2 n (Nat.le_refl _)
          have hown5 := hown4.congr (g := convZ za zb lb la) (fun i hi => by rw [s1 i (by omega)])
          rw [s3]
          have HO5 := hid hown5
          have HFR5 := hid (HFR.out.trans hfr4)
          clear hown4 hfr4 hown5 s1 s2 s3 HSU HRD HFR
          go_wp2
          go_ret2
          exact ⟨wr.heap.size, rfl, hs8, HO5.out, HFR5.out⟩
end Go.Proofs.Ygctaf
