/-
  WALK: fftx.convolve
-/
import Derived.Test.YgctafW40
namespace Go.Proofs.Ygctaf
open Go.RowKit Ieee
attribute [local go_sem] run_store_complex run_store_float CV_eq FV_eq

set_option maxRecDepth 20000 in
set_option maxHeartbeats 4000000 in
theorem convolvex_any (sp : Bool) (ab aoff la acap bb boff lb bcap q n : Nat) (za zb : Nat → Int) (w : World) (ha1 : 1 ≤ la) (ha2 : la ≤ 512) (hb1 : 1 ≤ lb) (hb2 : lb ≤ 512) (hq : q ≤ 9) (hlv : IsLvl (la + lb - 1) q) (hn : n = 2 ^ (q + 1))
    (hab : ab < w.heap.size) (hbb : bb < w.heap.size) (hra : Rd (Value.int .u8) w ab aoff la za) (hrb : Rd (Value.int .u8) w bb boff lb zb)
    (va : ∀ i, i < la → 0 ≤ za i ∧ za i ≤ 255) (vb : ∀ i, i < lb → 0 ≤ zb i ∧ zb i ≤ 255) (m : Nat) (hm : m + 1 = la + lb) :
    Calls Tafg.prog 104 #[.slice (some ⟨ab, aoff, none⟩) la acap, .slice (some ⟨bb, boff, none⟩) lb bcap, .bool sp] w fun e w' =>
      ∃ C, e = .returned (.tuple #[.slice (some ⟨C, 0, none⟩) m m, .bool true]) ∧ w.heap.size ≤ C ∧ Own (Value.int .i64) w' C m (convZ za zb lb la) ∧ Frm [] w w' := by
  have hl : la + lb ≤ 2 ^ (q + 1) + 1 := by have := hlv.1; omega
  have hb3 : n ≤ 1024 := by
    have : 2 ^ (q + 1) ≤ 2 ^ 10 := Nat.pow_le_pow_right (by decide) (by omega)
    omega
  have hmn : m ≤ n := by have := hlv.1; omega
  have em : la + lb - 1 = m := by omega
  have HSR := hid (fun gA gB G (fA : Fw (q + 1) (ptsF la za) 256 96 gA) (fB : Fw (q + 1) (ptsF lb zb) 256 96 gB) (fG : Fw (q + 1) (fun j => cconj (cmul (gA j) (gB j))) (p2 36) 283 G) =>
    cvs_sure (n := n) (R := fun i => cdivn (2 ^ (q + 1)) (G i)) ha1 hb1 ha2 va vb (fun i hi => cvx_right hq ha2 hb2 hl ha1 hb1 va vb fA fB fG i (by rw [← hn]; exact hi)))
  have HMID := hid (fun gA gB (fA : Fw (q + 1) (ptsF la za) 256 96 gA) (fB : Fw (q + 1) (ptsF lb zb) 256 96 gB) => cvx_mid hq ha2 hb2 hl ha1 hb1 va vb fA fB)
  rw [em] at HSR hlv
  have HLA := hid (fun i => pts_len la za va i)
  have HLB := hid (fun i => pts_len lb zb vb i)
  have HPA := hid (ptsF_bd va)
  have HPB := hid (ptsF_bd vb)
  obtain ⟨h, hh⟩ : ∃ h, h = 2 ^ q := ⟨_, rfl⟩
  have hh2 : n = 2 * h := by rw [hh, hn, Nat.pow_succ, Nat.mul_comm]
  have HO := hid (show TabOk (q + 1) h from ⟨by omega, by omega, by rw [hh]; rfl⟩)
  have e1 : (la : Int) + (lb : Int) - 1 = (m : Int) := by omega
  have e2 : 2 * (h : Int) = (n : Int) := by omega
  have hml : la ≤ n ∧ lb ≤ n := by omega
  have hhb : h ≤ 512 := by omega
  have HH2 := hid hh2
  obtain ⟨hla, hlb⟩ := hml
  have hm0 : 0 < m := by omega
  have hfi := floatOfInt_eq (n : Int)
  have hnv := fint_pow_val (q + 1) (by omega)
  rw [← hn] at hnv
  have HNV := hid hnv.1
  have HN0 := hid (show V (fint (n : Int)) ≠ 0 by rw [hnv.2]; exact p2_ne _)
  have HN := hid hn
  have HH := hid hh
  have HLV := hid hlv
  have HRA := hid hra
  have HRB := hid hrb
  have L256 : p2 (-1015) ≤ 256 := by decide +kernel
  have H256 := hid L256
  have H36 := hid (show p2 (-1015) ≤ p2 36 from p2_le (by decide))
  clear hh2 hlv hn hh hra hrb va vb hnv L256 em hm hl
  go_enter Tafg.func104, Tafg.ntmps104
  go_wp2_with fail
  refine same_mono (admitted_good _ _ la acap lb bcap _ ha1 hb1 ha2 hb2) ?_
  go_wp2_with fail
  refine same_mono (levels_any m q _ (by omega) HLV.out) ?_
  go_wp2_with fail
  refine (table_any q h (by omega) HH.out _).mono ?_
  rintro e w2 ⟨rfl, hT, hfr1⟩
  have hs1 := hT.1
  have HT := hid hT
  have HFR1 := hid hfr1
  clear hT hfr1
  go_wp2_with fail
  refine (pointsx_any ab aoff la acap n za _ (by omega) (by omega) (by omega) (HRA.out.frame HFR1.out hab (by simp))).mono ?_
  rintro e w3 ⟨rfl, hX, hfr2, hsz2⟩
  have hfr3 : Frm [] w w3 := HFR1.out.trans hfr2
  have hT3 := HT.out.frame hfr2 (by simp)
  go_wp2_with fail
  refine (pointsx_any bb boff lb bcap n zb _ (by omega) (by omega) (by omega) (HRB.out.frame hfr3 hbb (by simp))).mono ?_
  rintro e w4 ⟨rfl, hY, hfr4, hsz4⟩
  have hfr5 : Frm [] w w4 := hfr3.trans hfr4
  have hT4 := hT3.frame hfr4 (by simp)
  have hX4 := hX.frame hfr4 (by simp)
  rw [hsz2] at hY
  clear hT3 hX hfr2 hfr3 hfr4 HT HFR1
  go_wp2_with fail
  refine (forwardx_any sp w2.heap.size n n w.heap.size h h (q + 1) 8 256 (ptsF la za) _ HO.out HN.out HH2.out (by omega) hT4 hX4 (by decide) (by decide) H256.out (fun i _ => HPA.out i) (fun i _ => HLA.out i)).mono ?_
  rintro e w5 ⟨rfl, ⟨FX, hX5, fA⟩, hfr6, hsz5⟩
  have hT5 := hT4.frame hfr6 (by simp; omega)
  have hY5 := hY.frame hfr6 (by simp)
  have hfr7 : Frm [] w w5 := hfr5.seq hfr6 (by simp) (by intro i hi hl; simp at hi; omega)
  clear hT4 hX4 hY hfr5 hfr6
  go_wp2_with fail
  refine (forwardx_any sp (w2.heap.size + 1) n n w.heap.size h h (q + 1) 8 256 (ptsF lb zb) _ HO.out HN.out HH2.out (by omega) hT5 hY5 (by decide) (by decide) H256.out (fun i _ => HPB.out i) (fun i _ => HLB.out i)).mono ?_
  rintro e w6 ⟨rfl, ⟨FY, hY6, fB⟩, hfr8, hsz6⟩
  have hT6 := hT5.frame hfr8 (by simp; omega)
  have hX6 := hX5.frame hfr8 (by simp)
  have hfr9 : Frm [] w w6 := hfr7.seq hfr8 (by simp) (by intro i hi hl; simp at hi; omega)
  have HFA := hid fA
  have HFB := hid fB
  have HB1 := hid (fun i (hi : i < n) => (fA i (by rw [← HN.out]; exact hi)).1)
  have HB2 := hid (fun i (hi : i < n) => (fB i (by rw [← HN.out]; exact hi)).1)
  have HMID2 := hid (HMID.out FX FY fA fB)
  have HT6 := hid hT6
  have HX6 := hid hX6
  have HY6 := hid hY6
  have HFR9 := hid hfr9
  have hs5 : w2.heap.size + 1 < w6.heap.size := hY6.1
  clear fA fB hT5 hX5 hY5 hfr7 hfr8 hT6 hX6 hY6 hfr9 hsz2 hsz4 hsz5 hsz6 HMID HPA HPB HLA HLB HRA HRB
  generalize w2.heap.size = X at *
  go_wp2
  go_loopw [15] (fun i wr => ∃ k : Nat, k ≤ n ∧ i = .int .i64 k ∧ Own CV wr X n (fun j => if j < k then cconj (cmul (FX j) (FY j)) else FX j) ∧ Own CV wr (X + 1) n FY ∧ Own CV wr w.heap.size h (tabF (q + 1)) ∧ Frm [] w wr) (fun i _ => n - (intOf i).toNat)
  case atStart => exact ⟨0, Nat.zero_le _, rfl, by simpa using HX6.out, HY6.out, HT6.out, HFR9.out⟩
  case round =>
    obtain ⟨k, hk, rfl, hX, hY, hT, hfr⟩ := hrel
    by_cases hlt : k < n
    · have c1 := hX.cell hlt
      rw [if_neg (Nat.lt_irrefl k)] at c1
      have c2 := hX.free hlt
      have c3 := hY.cell hlt
      have hmul := mul_any _ _ (HB1.out k hlt) (HB2.out k hlt) (by decide) (by decide)
      have hcj := conj_any (cmul (FX k) (FY k))
      have hst := hX.step (f := fun j => cconj (cmul (FX j) (FY j))) hlt (v := CV (cconj (cmul (FX k) (FY k)))) rfl
      have hY2 := hY.setCell_other (c := X) (i := k) (by omega) (CV (cconj (cmul (FX k) (FY k))))
      have hT2 := hT.setCell_other (c := X) (i := k) (by omega) (CV (cconj (cmul (FX k) (FY k))))
      have hfr2 := hfr.setCell (p := ⟨X, k, none⟩) (.inr (by simp; omega)) (CV (cconj (cmul (FX k) (FY k))))
      have HST := hid hst
      have HY2 := hid hY2
      have HT2 := hid hT2
      have HFR2 := hid hfr2
      clear hst hY2 hT2 hfr2 hX hY hT hfr
      have b5 : (0 : Int) ≤ (k : Int) := by omega
      have b6 : (k : Int) < (n : Int) := by omega
      go_wp2
      go_region_with (first | (go_at_call 70; refine same_mono (hmul _) ?_) | (go_at_call 75; refine same_mono (hcj _) ?_))
      all_goals go_wp2
      all_goals
        go_roundw
        case rel => exact ⟨k + 1, by omega, by go_num, HST.out.drew, HY2.out.drew, HT2.out.drew, HFR2.out.drew⟩
        case measure => simp [intOf]; omega
    · have hX2 := hX.full (by omega)
      have hP : ∀ i, i < n → Bd 195 (cconj (cmul (FX i) (FY i))) ∧ Len (cv (cconj (cmul (FX i) (FY i)))) (p2 36) := fun i hi => by
        obtain ⟨a, _, c⟩ := HMID2.out i (by rw [← HN.out]; exact hi)
        exact ⟨Bd.conj a, by rw [cv_conj a]; exact c.conj⟩
      have hinv := forwardx_any sp X n n w.heap.size h h (q + 1) 195 (p2 36) (fun i => cconj (cmul (FX i) (FY i))) wr HO.out HN.out HH2.out (by omega) hT hX2 (by decide) (by decide) H36.out (fun i hi => (hP i hi).1) (fun i hi => (hP i hi).2)
      have HINV := hid hinv
      have HFR := hid hfr
      clear hinv hX hX2 hY hT hfr hP HMID2 HX6 HY6 HT6 HFR9
      go_wp2_with fail
      refine Calls.mono HINV.out ?_
      rintro e w7 ⟨rfl, ⟨G, hG, fG⟩, hfr10, hsz7⟩
      have HSU := hid (HSR.out FX FY G HFA.out HFB.out fG)
      have HBG := hid (fun i (hi : i < n) => (fG i (by rw [← HN.out]; exact hi)).1)
      have HG := hid hG
      have HFR2 := hid (show Frm [] w w7 from HFR.out.seq hfr10 (by simp) (by intro i hi hl; simp at hi; omega))
      clear hG fG hfr10 hsz7 HINV HFR HSR HFA HFB
      go_wp2
      go_loopw [16] (fun i wr => ∃ k2 : Nat, k2 ≤ n ∧ i = .int .i64 k2 ∧ Own CV wr X n (fun j => if j < k2 then cdivn n (G j) else G j) ∧ Frm [] w wr) (fun i _ => n - (intOf i).toNat)
      case atStart => exact ⟨0, Nat.zero_le _, rfl, by simpa using HG.out, HFR2.out⟩
      case round =>
        obtain ⟨j, hj, rfl, hown3, hfr3⟩ := hrel
        by_cases hlj : j < n
        · have c1 := hown3.cell hlj
          rw [if_neg (Nat.lt_irrefl j)] at c1
          have c2 := hown3.free hlj
          have bz := HBG.out j hlj
          have r1 := run_fdiv bz.re.num HNV.out HN0.out
          have r2 := run_fdiv bz.im.num HNV.out HN0.out
          have HST := hid (hown3.step (f := fun j => cdivn n (G j)) hlj (v := CV (fdiv (G j).1 (fint (n : Int)), fdiv (G j).2 (fint (n : Int)))) rfl)
          have HFR := hid hfr3
          clear hown3 hfr3 bz
          have b5 : (0 : Int) ≤ (j : Int) := by omega
          have b6 : (j : Int) < (n : Int) := by omega
          go_wp2
          go_region
          go_wp2
          go_roundw
          case rel => exact ⟨j + 1, by omega, by go_num, HST.out.drew, (HFR.out.setCell (.inr (by simp; omega)) _).drew⟩
          case measure => simp [intOf]; omega
        · have hR := hown3.full (f := fun j => cdivn n (G j)) (by omega)
          have hs8 := hfr3.size
          have HRD := hid (roundAll_pos X n n m _ wr hm0 hmn (by omega) hR)
          have HFR := hid hfr3
          clear hown3 hfr3 hR
          go_wp2_with fail
          refine Calls.mono HRD.out ?_
          rintro e w8 ⟨rfl, hown4, hfr4⟩
          obtain ⟨s1, s2⟩ := HSU.out
          have s3 := s2 n (Nat.le_refl _)
          rw [← HN.out] at s1 s3
          have hown5 := hown4.congr (g := convZ za zb lb la) (fun i hi => by rw [s1 i (by omega)])
          rw [s3]
          have HO5 := hid hown5
          have HFR5 := hid (HFR.out.trans hfr4)
          clear hown4 hfr4 hown5 s1 s2 s3 HSU HRD HFR
          go_wp2
          go_ret2
          exact ⟨wr.heap.size, rfl, hs8, HO5.out, HFR5.out⟩
end Go.Proofs.Ygctaf
