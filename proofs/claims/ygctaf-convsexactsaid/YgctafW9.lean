/-
  WALKS: fft.Stage.
-/
import Derived.Test.YgctafW6
import Derived.Test.YgctafStage
import Derived.Deep.QuietTactic
import Derived.BigQuiet
namespace Go.Proofs.Ygctaf
open Go.RowKit
attribute [local go_sem] run_store_complex run_store_float CV_eq FV_eq

theorem run_cadd {x y : Nat × Nat} {e : Int} (hx : Bd e x) (hy : Bd e y) (t : TypeId) (w : World) :
    (binOp .add t (.complex .f64 x.1 x.2) (.complex .f64 y.1 y.2)).run Tafg.prog w = .ok (.complex .f64 (cadd x y).1 (cadd x y).2) w := by
  refine run_complex_sum w .add (.inl rfl) t .f64 _ _ _ _ _ _ ?_
  unfold cSumBits floatBits
  show (Ieee.double.add x.1 y.1).bind _ = _
  rw [add_some hx.re.num hy.re.num]
  show (Ieee.double.add x.2 y.2).bind _ = _
  rw [add_some hx.im.num hy.im.num]; rfl
theorem run_csub {x y : Nat × Nat} {e : Int} (hx : Bd e x) (hy : Bd e y) (t : TypeId) (w : World) :
    (binOp .sub t (.complex .f64 x.1 x.2) (.complex .f64 y.1 y.2)).run Tafg.prog w = .ok (.complex .f64 (csub x y).1 (csub x y).2) w := by
  refine run_complex_sum w .sub (.inr rfl) t .f64 _ _ _ _ _ _ ?_
  unfold cSumBits floatBits
  show (Ieee.double.sub x.1 y.1).bind _ = _
  rw [sub_some hx.re.num hy.re.num]
  show (Ieee.double.sub x.2 y.2).bind _ = _
  rw [sub_some hx.im.num hy.im.num]; rfl

theorem wrap_small (m : Nat) (h : m ≤ 4294967296) : IntKind.i64.wrap (m : Int) = (m : Int) := by rw [IntKind.wrap_i64]; omega
theorem wrap64_small (m : Nat) (h : m ≤ 4294967296) : wrap64 (m : Int) = (m : Int) := by unfold wrap64; omega

set_option maxHeartbeats 2000000 in
theorem stage_any (b n cap tb h tcap k t hf sp : Nat) (e : Int) (T f : Nat → Nat × Nat) (w : World) (hk : k ≤ 11) (ht : t + 1 ≤ k) (hn : n = 2 ^ k) (hh : n = 2 * h) (hhf : hf = 2 ^ t) (hsp : sp = 2 ^ (k - (t + 1)))
    (hne : tb ≠ b) (hT : Own CV w tb h T) (hf0 : Own CV w b n f) (he0 : 0 ≤ e) (he1 : e ≤ 900) (bT : ∀ i, i < h → Bd 1 (T i)) (bF : ∀ i, i < n → Bd e (f i)) :
    Calls Tafg.prog 79 #[.slice (some ⟨b, 0, none⟩) n cap, .slice (some ⟨tb, 0, none⟩) h tcap, .int .u8 ((t : Int) + 1)] w fun e w' =>
      e = .returned (.tuple #[]) ∧ Own CV w' b n (stageF hf sp T f) ∧ Frm [b] w w' ∧ w'.heap.size = w.heap.size := by
  have hl := level_pow k n hk hn
  have hfit := fits_two k h (by omega) hk (by omega)
  rw [← hh] at hfit
  have hb : n ≤ 2048 := by rw [hn]; exact Nat.pow_le_pow_right (by decide) hk
  have hcirc : hf * sp = h := by
    have : hf * sp * 2 = n := by
      rw [hhf, hsp, hn, ← Nat.pow_add, ← Nat.pow_succ]; congr 1; omega
    omega
  have w1 : wrap64 ((2 : Int) ^ t) = (hf : Int) := by rw [wrap_pow (by omega), hhf]
  obtain ⟨d, hd⟩ : ∃ d : Nat, d = k - (t + 1) := ⟨_, rfl⟩
  have w2 : wrap64 ((2 : Int) ^ d) = (sp : Int) := by rw [wrap_pow (by omega), hsp, hd]
  have w3 : (k : Int) - ((t : Int) + 1) = (d : Int) := by omega
  have d1 : decide ((t : Int) + 1 < 1) = false := by simp; omega
  have d2 : decide ((k : Int) < (t : Int) + 1) = false := by simp; omega
  have hh2 : h ≤ 1024 := by omega
  have HN := hid hn
  have HH := hid hh
  have HC := hid hcirc
  clear hn hhf hsp hd hh hcirc
  go_enter Tafg.func79, Tafg.ntmps79
  go_wp2_with (first | (go_at_call 78; refine same_mono (hl _) ?_) | (go_at_call 74; refine same_mono (hfit _) ?_))
  go_quiet (fail)
  go_wp2
  simp only [w1, w2]
  have HFO := hid hf0
  have HTO := hid hT
  have HBT := hid bT
  have HBF := hid bF
  have HNE := hid hne
  clear w1 w2 w3 hf0 hT bT bF hne hl hfit
  go_loopw [9, 10, 11, 12, 13, 14] (fun s _ _ _ _ _ wr => ∃ c ss : Nat, c ≤ sp ∧ s = .int .i64 ss ∧ ss = 2 * hf * c ∧ Own CV wr b n (stPart hf sp T f ss 0) ∧ Frm [b] w wr ∧ wr.heap.size = w.heap.size) (fun s _ _ _ _ _ _ => n - (intOf s).toNat)
  case atStart => exact ⟨0, 0, Nat.zero_le _, rfl, by simp, by rw [stPart_zero]; exact HFO.out, (Frm.refl _ _).drewN _, rfl⟩
  case round =>
    obtain ⟨c, ss, hc, rfl, hss, hown, hfr, hsz⟩ := hrel
    have hnn : n = 2 * hf * sp := by rw [Nat.mul_assoc, HC.out]; exact HH.out
    by_cases hlt : c < sp
    · have hle : ss + 2 * hf ≤ n := by
        rw [hss, hnn]
        have := Nat.mul_le_mul_left (2 * hf) (show c + 1 ≤ sp from hlt)
        rw [Nat.mul_add, Nat.mul_one] at this
        exact this
      have hpos : 0 < hf := by
        rcases Nat.eq_zero_or_pos hf with h0 | h0
        · subst h0; have := HN.out; have := Nat.two_pow_pos k; omega
        · exact h0
      have HSS := hid hss
      have HNN := hid hnn
      have HOWN := hid hown
      have HFR := hid hfr
      have HSZ := hid hsz
      clear hss hnn hown hfr hsz
      go_wp2
      go_loopw [10, 11, 12, 13, 14] (fun j _ _ _ _ wi => ∃ jj : Nat, jj ≤ hf ∧ j = .int .i64 jj ∧ Own CV wi b n (stPart hf sp T f ss jj) ∧ Frm [b] w wi ∧ wi.heap.size = w.heap.size) (fun j _ _ _ _ _ => hf - (intOf j).toNat)
      case atStart => exact ⟨0, Nat.zero_le _, rfl, HOWN.out, HFR.out, HSZ.out⟩
      case round =>
        obtain ⟨jj, hjj, rfl, hown, hfr, hsz⟩ := hrel
        by_cases hjl : jj < hf
        · obtain ⟨m, hm⟩ : ∃ m, m = jj * sp := ⟨_, rfl⟩
          have hmh : m < h := by
            rw [hm, ← HC.out]
            exact Nat.mul_lt_mul_of_pos_right hjl (by omega)
          have m1 : (jj : Int) * (sp : Int) = (m : Int) := by rw [hm]; simp
          have c1 := hown.cell (i := ss + jj) (by omega)
          rw [stPart_p _ _ _ _ _ _ hjl] at c1
          have c2 := hown.cell (i := ss + jj + hf) (by omega)
          rw [stPart_q _ _ _ _ _ _ hjl] at c2
          have f1 := hown.free (i := ss + jj) (by omega)
          have f2 := hown.free (i := ss + jj + hf) (by omega)
          have c3 := (HTO.out.frame hfr (by simpa using HNE.out)).cell hmh
          have hst := own_stage HSS.out hjl hle hown
          rw [← hm] at hst
          have bm := (HBF.out (ss + jj + hf) (by omega)).mul (HBT.out m hmh) (by omega) (by omega)
          have bp := (HBF.out (ss + jj) (by omega)).mono (show e ≤ e + 1 + 3 by omega)
          have hmul := mul_any _ _ (HBF.out (ss + jj + hf) (by omega)) (HBT.out m hmh) (by omega) (by omega)
          have ra := run_cadd bp bm
          have rs := run_csub bp bm
          have i1 : (0 : Int) ≤ (ss : Int) + (jj : Int) := by omega
          have i2 : (ss : Int) + (jj : Int) < (n : Int) := by omega
          have i3 : (0 : Int) ≤ (ss : Int) + (jj : Int) + (hf : Int) := by omega
          have i4 : (ss : Int) + (jj : Int) + (hf : Int) < (n : Int) := by omega
          have i5 : (0 : Int) ≤ (m : Int) := by omega
          have i6 : (m : Int) < (h : Int) := by omega
          have t1 : ((ss : Int) + (jj : Int)).toNat = ss + jj := by omega
          have t2 : ((ss : Int) + (jj : Int) + (hf : Int)).toNat = ss + jj + hf := by omega
          have m3 : IntKind.i64.wrap (m : Int) = (m : Int) := wrap_small m (by omega)
          have HST := hid hst
          have HFR2 := hid hfr
          have HSZ2 := hid hsz
          clear hst hown hfr hsz bm bp hm
          go_wp2
          go_quiet ((go_at_call 70; exact Calls.quiet_of_same (hmul _)))
          go_wp2
          go_roundw
          case rel => exact ⟨jj + 1, by omega, by go_num, HST.out.drewN _, ((HFR2.out.drewN _).setCell (.inl (by simp)) _).setCell (.inl (by simp)) _, by simpa using HSZ2.out⟩
          case measure => simp [intOf]; omega
        · have e : jj = hf := by omega
          subst e
          rw [stPart_next] at hown
          have HST := hid hown
          have HFR2 := hid hfr
          have HSZ2 := hid hsz
          clear hown hfr hsz
          go_wp2
          go_roundw
          case rel => exact ⟨c + 1, ss + 2 * jj, by omega, by go_num, by rw [HSS.out, Nat.mul_add, Nat.mul_one], HST.out, HFR2.out, HSZ2.out⟩
          case measure => simp [intOf]; omega
    · have e : c = sp := by omega
      subst e
      have e2 : ss = n := by rw [hss, hnn]
      subst e2
      have HST := hid hown
      have HFR := hid hfr
      have HSZ := hid hsz
      clear hown hfr hsz hss hnn
      go_wp2
      go_end0
      refine ⟨rfl, HST.out.congr fun a ha => ?_, HFR.out, HSZ.out⟩
      unfold stPart; rw [if_pos (by omega)]
end Go.Proofs.Ygctaf
