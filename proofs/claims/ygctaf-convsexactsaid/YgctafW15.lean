/-
  law.doubleLoop, law.digits, law.convolved
-/
import Derived.Test.YgctafConvLaw
namespace Go.Proofs.Ygctaf
open Ieee Go.RowKit
attribute [local go_sem] run_store_complex run_store_float CV_eq FV_eq

def dlF (za zb : Nat → Int) (lb k j : Nat) : Nat → Int := fun t => convZ za zb lb k t + if k ≤ t ∧ t - k < j then za k * zb (t - k) else 0
theorem dlF_zero (za zb : Nat → Int) (lb k : Nat) : dlF za zb lb k 0 = convZ za zb lb k := by
  funext t; unfold dlF; rw [if_neg (by omega)]; omega
theorem dlF_full (za zb : Nat → Int) (lb k : Nat) : dlF za zb lb k lb = convZ za zb lb (k + 1) := rfl
theorem dlF_at (za zb : Nat → Int) (lb k j : Nat) : dlF za zb lb k j (k + j) = convZ za zb lb k (k + j) := by
  unfold dlF; rw [if_neg (by omega)]; omega
theorem own_dl {w : World} {C m : Nat} {za zb : Nat → Int} {lb k j : Nat} (hm : k + j < m) (h : Own (Value.int .i64) w C m (dlF za zb lb k j)) :
    Own (Value.int .i64) (w.setCell ⟨C, k + j, none⟩ (.int .i64 (convZ za zb lb k (k + j) + za k * zb j))) C m (dlF za zb lb k (j + 1)) := by
  refine (h.setCell hm (convZ za zb lb k (k + j) + za k * zb j)).congr fun t _ => ?_
  by_cases e : t = k + j
  · subst e
    rw [upd_same]; unfold dlF
    rw [if_pos (by omega), Nat.add_sub_cancel_left]
  · rw [upd_ne _ _ _ _ e]; unfold dlF
    by_cases c : k ≤ t ∧ t - k < j
    · rw [if_pos c, if_pos (by omega)]
    · rw [if_neg c, if_neg (by omega)]

set_option maxHeartbeats 1000000 in
theorem doubleLoop_any (ab aoff la acap bb boff lb bcap m : Nat) (za zb : Nat → Int) (w : World) (ha1 : 1 ≤ la) (ha2 : la ≤ 512) (hb1 : 1 ≤ lb) (hb2 : lb ≤ 512) (hm : m + 1 = la + lb)
    (hab : ab < w.heap.size) (hbb : bb < w.heap.size) (hra : Rd (Value.int .u8) w ab aoff la za) (hrb : Rd (Value.int .u8) w bb boff lb zb)
    (va : ∀ i, i < la → 0 ≤ za i ∧ za i ≤ 255) (vb : ∀ i, i < lb → 0 ≤ zb i ∧ zb i ≤ 255) :
    Calls Tafg.prog 88 #[.slice (some ⟨ab, aoff, none⟩) la acap, .slice (some ⟨bb, boff, none⟩) lb bcap] w fun e w' =>
      e = .returned (.slice (some ⟨w.heap.size, 0, none⟩) m m) ∧ Own (Value.int .i64) w' w.heap.size m (convZ za zb lb la) ∧ Frm [] w w' := by
  have hmk := make_i m (by omega)
  have d1 : ((la : Int) == 0) = false := by simp; omega
  have d2 : ((lb : Int) == 0) = false := by simp; omega
  have e1 : (la : Int) + (lb : Int) - 1 = (m : Int) := by omega
  have HRA := hid hra
  have HRB := hid hrb
  have HVA := hid va
  have HVB := hid vb
  have HM := hid hm
  clear hra hrb va vb hm
  go_enter Tafg.func88, Tafg.ntmps88
  go_wp2
  go_loopw [6, 7] (fun i _ wr => ∃ k : Nat, k ≤ la ∧ i = .int .i64 k ∧ Own (Value.int .i64) wr w.heap.size m (convZ za zb lb k) ∧ Frm [] w wr) (fun i _ _ => la - (intOf i).toNat)
  case atStart => exact ⟨0, Nat.zero_le _, rfl, Own.made (enc := Value.int .i64) (z := (0 : Int)), (Frm.refl _ _).alloc _⟩
  case round =>
    obtain ⟨k, hk, rfl, hown, hfr⟩ := hrel
    by_cases hlt : k < la
    · have c2 : wr.cell? ⟨ab, aoff + k, none⟩ = some (.int .u8 (za k)) := (HRA.out.frame hfr hab (by simp)) k hlt
      have HOWN := hid hown
      have HFR := hid hfr
      clear hown hfr c2
      go_wp2
      go_loopw [7] (fun j wi => ∃ jj : Nat, jj ≤ lb ∧ j = .int .i64 jj ∧ Own (Value.int .i64) wi w.heap.size m (dlF za zb lb k jj) ∧ Frm [] w wi) (fun j _ => lb - (intOf j).toNat)
      case atStart => exact ⟨0, Nat.zero_le _, rfl, by rw [dlF_zero]; exact HOWN.out, HFR.out⟩
      case round =>
        obtain ⟨jj, hjj, rfl, hown, hfr⟩ := hrel
        by_cases hjl : jj < lb
        · have hkj : k + jj < m := by have := HM.out; omega
          have c1 := hown.cell hkj
          rw [dlF_at] at c1
          have f1 := hown.free hkj
          have c2 : wr.cell? ⟨ab, aoff + k, none⟩ = some (.int .u8 (za k)) := (HRA.out.frame hfr hab (by simp)) k hlt
          have c3 : wr.cell? ⟨bb, boff + jj, none⟩ = some (.int .u8 (zb jj)) := (HRB.out.frame hfr hbb (by simp)) jj hjl
          have hst := own_dl hkj hown
          have b1 := convZ_bd za zb la lb HVA.out HVB.out (k + jj) k hk
          have b2 := HVA.out k hlt
          have b3 := HVB.out jj hjl
          have b4 : za k * zb jj ≤ 255 * 255 := Int.mul_le_mul b2.2 b3.2 b3.1 (by decide)
          have b5 := Int.mul_nonneg b2.1 b3.1
          have HST := hid hst
          have HFR2 := hid hfr
          clear hst hown hfr
          generalize za k = x at *
          generalize zb jj = y at *
          generalize convZ za zb lb k (k + jj) = o at *
          obtain ⟨p, hp⟩ : ∃ p, x * y = p := ⟨_, rfl⟩
          rw [hp] at b4 b5
          have g1 := b1.1
          have g2 := b1.2
          have g3 : o ≤ 33292800 := by omega
          have g4 := b2.1
          have g5 := b2.2
          have g6 := b3.1
          have g7 := b3.2
          clear b1 b2 b3
          go_wp2
          go_region
          go_wp2
          go_roundw
          case rel => exact ⟨jj + 1, by omega, by go_num, by rw [← hp]; exact HST.out.drew, (HFR2.out.setCell (.inr (Nat.le_refl _)) _).drew⟩
          case measure => simp [intOf]; omega
        · have e : jj = lb := by omega
          subst e
          rw [dlF_full] at hown
          have HOWN2 := hid hown
          have HFR2 := hid hfr
          clear hown hfr
          go_wp2
          go_roundw
          case rel => exact ⟨k + 1, by omega, by go_num, HOWN2.out, HFR2.out⟩
          case measure => simp [intOf]; omega
    · have e : k = la := by omega
      subst e
      have HOWN := hid hown
      have HFR := hid hfr
      clear hown hfr
      go_wp2
      go_ret
      exact ⟨rfl, HOWN.out, HFR.out⟩
end Go.Proofs.Ygctaf
