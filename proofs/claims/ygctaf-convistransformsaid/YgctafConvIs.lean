/-
  WALKS: law.ConvIsTransform.
-/
import Derived.Test.YgctafW14
namespace Go.Proofs.Ygctaf
open Go.RowKit
attribute [local go_sem] run_store_complex run_store_float CV_eq FV_eq

set_option maxHeartbeats 1000000 in
theorem convIs_bad (a b : Option Addr) (la acap lb bcap : Nat) (w : World) (h : la = 0 ∨ lb = 0 ∨ 512 < la ∨ 512 < lb) (ha : la ≤ 140737488351232) (hb : lb ≤ 140737488351232) :
    Calls Tafg.prog 7 #[.slice a la acap, .slice b lb bcap] w fun e w' => e = .returned (.bool true) ∧ Frm [] w w' := by
  have hraw := raw_nil a b la acap lb bcap w h ha hb
  have hnil := fun w => Lib.run_eql_slice_nil (P := Tafg.prog) w 23 42 none 0 0 0 0 Tafg.underlying23
  have HRAW := hid hraw
  clear hraw
  by_cases g1 : la = 0
  · subst g1
    go_enter Tafg.func7, Tafg.ntmps7
    go_wp2_with (first | (go_at_call 35; refine same_mono HRAW.out ?_))
    go_ret
    exact ⟨rfl, Frm.refl _ _⟩
  have d1 : ((la : Int) == 0) = false := by simp; omega
  by_cases g2 : lb = 0
  · subst g2
    go_enter Tafg.func7, Tafg.ntmps7
    go_wp2_with (first | (go_at_call 35; refine same_mono HRAW.out ?_))
    go_ret
    exact ⟨rfl, Frm.refl _ _⟩
  have d2 : ((lb : Int) == 0) = false := by simp; omega
  by_cases g3 : 512 < la
  · have d3 : decide ((512 : Int) < (la : Int)) = true := by simp; omega
    clear h
    go_enter Tafg.func7, Tafg.ntmps7
    go_wp2_with (first | (go_at_call 35; refine same_mono HRAW.out ?_))
    go_ret
    exact ⟨rfl, Frm.refl _ _⟩
  · have d3 : decide ((512 : Int) < (la : Int)) = false := by simp; omega
    have d4 : decide ((512 : Int) < (lb : Int)) = true := by simp; omega
    clear h
    go_enter Tafg.func7, Tafg.ntmps7
    go_wp2_with (first | (go_at_call 35; refine same_mono HRAW.out ?_))
    go_ret
    exact ⟨rfl, Frm.refl _ _⟩

set_option maxHeartbeats 2000000 in
theorem convIs_good (ab aoff la acap bb boff lb bcap q n : Nat) (za zb : Nat → Int) (w : World) (ha1 : 1 ≤ la) (ha2 : la ≤ 512) (hb1 : 1 ≤ lb) (hb2 : lb ≤ 512) (hq : q ≤ 9) (hlv : IsLvl (la + lb - 1) q) (hn : n = 2 ^ (q + 1))
    (hab : ab < w.heap.size) (hbb : bb < w.heap.size) (hra : Rd (Value.int .u8) w ab aoff la za) (hrb : Rd (Value.int .u8) w bb boff lb zb)
    (va : ∀ i, i < la → 0 ≤ za i ∧ za i ≤ 255) (vb : ∀ i, i < lb → 0 ≤ zb i ∧ zb i ≤ 255) (m : Nat) (hm : m + 1 = la + lb) :
    Calls Tafg.prog 7 #[.slice (some ⟨ab, aoff, none⟩) la acap, .slice (some ⟨bb, boff, none⟩) lb bcap] w fun e w' => e = .returned (.bool true) ∧ Frm [] w w' := by
  have hraw := fun w hab hbb hra hrb => raw_any ab aoff la acap bb boff lb bcap q n za zb w ha1 ha2 hb1 hb2 hq hlv hn hab hbb hra hrb va vb
  have hrec := fun w hab hbb hra hrb => recipe_any ab aoff la acap bb boff lb bcap q n za zb w ha1 ha2 hb1 hb2 hq hlv hn hab hbb hra hrb va vb
  have hcon := fun w hab hbb hra hrb => convolve_any ab aoff la acap bb boff lb bcap q n za zb w ha1 ha2 hb1 hb2 hq hlv hn hab hbb hra hrb va vb m hm
  have hmn : m ≤ n := by have := hlv.1; omega
  have hb3 : n ≤ 1024 := by
    have : 2 ^ (q + 1) ≤ 2 ^ 10 := Nat.pow_le_pow_right (by decide) (by omega)
    omega
  have d1 : ((la : Int) == 0) = false := by simp; omega
  have d2 : ((lb : Int) == 0) = false := by simp; omega
  have d3 : decide ((512 : Int) < (la : Int)) = false := by simp; omega
  have d4 : decide ((512 : Int) < (lb : Int)) = false := by simp; omega
  have e1 : (la : Int) + (lb : Int) - 1 = (m : Int) := by omega
  obtain ⟨R, hR⟩ : ∃ R, R = rawF (q + 1) la za lb zb := ⟨_, rfl⟩
  rw [← hR] at hraw hrec hcon
  have HRAW := hid hraw
  have HREC := hid hrec
  have HCON := hid hcon
  have HRA := hid hra
  have HRB := hid hrb
  clear hraw hrec hcon hlv hn hra hrb va vb hm hR
  go_enter Tafg.func7, Tafg.ntmps7
  go_wp2_with fail
  refine Calls.mono (HRAW.out w hab hbb HRA.out HRB.out) ?_
  rintro e w1 ⟨B, rfl, hB, hown, hfr⟩
  have hs1 := hfr.size
  go_wp2_with fail
  refine Calls.mono (HREC.out w1 (by omega) (by omega) (HRA.out.frame hfr hab (by simp)) (HRB.out.frame hfr hbb (by simp))) ?_
  rintro e w2 ⟨B2, rfl, hB2, hown2, hfr2⟩
  have hfr3 := hfr.trans hfr2
  have hown1 := hown.frame hfr2 (by simp)
  have HF3 := hid hfr3
  have HO1 := hid hown1
  have HO2 := hid hown2
  clear hown hown1 hown2 hfr hfr2 hfr3
  go_wp2
  go_loopw [4, 7] (fun _ i wr => ∃ k : Nat, k ≤ n ∧ i = .int .i64 k ∧ Own CV wr B n R ∧ Own CV wr B2 n R ∧ Frm [] w wr) (fun _ i _ => n - (intOf i).toNat)
  case atStart => exact ⟨0, Nat.zero_le _, rfl, HO1.out, HO2.out, HF3.out⟩
  case round =>
    obtain ⟨k, hk, rfl, h1, h2, hfr⟩ := hrel
    by_cases hlt : k < n
    · have g1 := h1.cell hlt
      have g2 := h2.cell hlt
      have b5 : (0 : Int) ≤ (k : Int) := by omega
      have b6 : (k : Int) < (n : Int) := by omega
      have q1 := b64_any (R k).1
      have q2 := b64_any (R k).2
      have q3 := bitsC_same (R k)
      have H1 := hid h1
      have H2 := hid h2
      have HFR := hid hfr
      clear h1 h2 hfr
      go_wp2
      go_quiet ((first | (go_at_call_of 38 (Value.float .f64 (R k).1); exact Calls.quiet_of_same (q1 _)) | (go_at_call_of 38 (Value.float .f64 (R k).2); exact Calls.quiet_of_same (q2 _)) | (go_at_call 37; exact Calls.quiet_of_same (q3 _))))
      go_wp2
      go_roundw
      case rel => exact ⟨k + 1, by omega, by go_num, H1.out.drewN _, H2.out.drewN _, HFR.out.drewN _⟩
      case measure => simp [intOf]; omega
    · have hs3 := hfr.size
      have HFR := hid hfr
      have HA := hid (HRA.out.frame hfr hab (by simp))
      have HB := hid (HRB.out.frame hfr hbb (by simp))
      have H1 := hid h1
      clear h1 h2 hfr
      go_wp2_with fail
      refine Calls.mono (HCON.out wr (by omega) (by omega) HA.out HB.out) ?_
      rintro e w3 ⟨C, rfl, hC, hown3, hfr4⟩
      have h1' := H1.out.frame hfr4 (by simp)
      go_wp2_with fail
      refine (roundAll_pos B n n m R w3 (by omega) hmn (by omega) h1').mono ?_
      rintro e w4 ⟨rfl, hown5, hfr5⟩
      have hC5 := hown3.frame hfr5 (by simp)
      have hfr6 := (HFR.out.trans hfr4).trans hfr5
      clear hfr4 hfr5 h1' hown3
      go_wp2_with fail
      refine (sameInts_any C m w3.heap.size m m _ w4 (by omega) hC5 hown5).mono ?_
      rintro e w5 ⟨rfl, hfr7⟩
      go_wp2
      go_ret
      exact ⟨rfl, hfr6.trans hfr7⟩

theorem convIs_any (a b : Option Addr) (la acap lb bcap : Nat) (za zb : Nat → Int) (w : World) (ha : la ≤ 140737488351232) (hb : lb ≤ 140737488351232)
    (hra : InRow .u8 w a la za) (hrb : InRow .u8 w b lb zb) (va : ∀ i, i < la → 0 ≤ za i ∧ za i ≤ 255) (vb : ∀ i, i < lb → 0 ≤ zb i ∧ zb i ≤ 255) :
    Calls Tafg.prog 7 #[.slice a la acap, .slice b lb bcap] w fun e w' => e = .returned (.bool true) ∧ Frm [] w w' := by
  by_cases h : la = 0 ∨ lb = 0 ∨ 512 < la ∨ 512 < lb
  · exact convIs_bad a b la acap lb bcap w h ha hb
  · rcases hra with h0 | ⟨ab, aoff, rfl, hab, hra⟩
    · omega
    rcases hrb with h0 | ⟨bb, boff, rfl, hbb, hrb⟩
    · omega
    obtain ⟨q, hq, hlv⟩ := isLvl_ex (la + lb - 1) 9 (by omega)
    exact convIs_good ab aoff la acap bb boff lb bcap q (2 ^ (q + 1)) za zb w (by omega) (by omega) (by omega) (by omega) hq hlv rfl hab hbb hra hrb va vb (la + lb - 1) (by omega)
end Go.Proofs.Ygctaf
