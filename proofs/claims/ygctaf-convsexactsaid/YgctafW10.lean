/-
  WALKS: fft.Forward.
-/
import Derived.Test.YgctafW8
import Derived.Test.YgctafW9
namespace Go.Proofs.Ygctaf
open Go.RowKit
attribute [local go_sem] run_store_complex run_store_float CV_eq FV_eq

/-- t passes. -/
def stagesF (k : Nat) (T f : Nat → Nat × Nat) : Nat → Nat → Nat × Nat
  | 0 => f
  | t + 1 => stageF (2 ^ t) (2 ^ (k - (t + 1))) T (stagesF k T f t)
/-- fft.Forward -/
def fwdF (k : Nat) (T f : Nat → Nat × Nat) : Nat → Nat × Nat := stagesF k T (fun a => f (revN k a)) k

theorem stagesF_bd {k h : Nat} {T f : Nat → Nat × Nat} {e : Int} (hk : k ≤ 11) (h0 : 0 ≤ e) (h1 : e ≤ 800) (hh : 2 ^ k = 2 * h) (hT : ∀ i, i < h → Bd 1 (T i)) (hF : ∀ i, i < 2 ^ k → Bd e (f i)) :
    ∀ t, t ≤ k → ∀ a, a < 2 ^ k → Bd (e + 6 * t) (stagesF k T f t a)
  | 0, _ => fun a ha => (hF a ha).mono (by omega)
  | t + 1, ht => fun a ha => by
    have ih := stagesF_bd hk h0 h1 hh hT hF t (by omega)
    have e1 : 2 ^ k = 2 * 2 ^ t * 2 ^ (k - (t + 1)) := by
      rw [← Nat.pow_succ', ← Nat.pow_add]; congr 1; omega
    have := stageF_bd (hf := 2 ^ t) (sp := 2 ^ (k - (t + 1))) (e := e + 6 * t) (by omega) (by omega) e1 (h := h) (by rw [Nat.mul_assoc] at e1; omega) hT ih (Nat.two_pow_pos _) a ha
    exact this.mono (by omega)
theorem fwdF_bd {k h : Nat} {T f : Nat → Nat × Nat} {e : Int} (hk : k ≤ 11) (h0 : 0 ≤ e) (h1 : e ≤ 800) (hh : k = 0 ∨ 2 ^ k = 2 * h) (hT : ∀ i, i < h → Bd 1 (T i)) (hF : ∀ i, i < 2 ^ k → Bd e (f i)) :
    ∀ a, a < 2 ^ k → Bd (e + 66) (fwdF k T f a) := by
  intro a ha
  unfold fwdF
  rcases hh with rfl | hh
  · have : a = 0 := by omega
    subst this
    exact (hF _ (revN_lt 0 0)).mono (by omega)
  · exact (stagesF_bd hk h0 h1 hh hT (f := fun a => f (revN k a)) (fun i hi => hF _ (revN_lt k i)) k (Nat.le_refl _) a ha).mono (by omega)

set_option maxHeartbeats 2000000 in
theorem forward_any (b n cap tb h tcap k : Nat) (e : Int) (T f : Nat → Nat × Nat) (w : World) (hk1 : 1 ≤ k) (hk : k ≤ 11) (hn : n = 2 ^ k) (hh : n = 2 * h)
    (hne : tb ≠ b) (hT : Own CV w tb h T) (hf0 : Own CV w b n f) (he0 : 0 ≤ e) (he1 : e ≤ 800) (bT : ∀ i, i < h → Bd 1 (T i)) (bF : ∀ i, i < n → Bd e (f i)) :
    Calls Tafg.prog 23 #[.slice (some ⟨b, 0, none⟩) n cap, .slice (some ⟨tb, 0, none⟩) h tcap] w fun e w' =>
      e = .returned (.bool true) ∧ Own CV w' b n (fwdF k T f) ∧ Frm [b] w w' ∧ w'.heap.size = w.heap.size := by
  have hl := level_pow k n hk hn
  have hfit := fits_two k h hk1 hk (by omega)
  rw [← hh] at hfit
  have hrev := reverse_any b n cap k f w hk hn hf0
  have hb : n ≤ 2048 := by rw [hn]; exact Nat.pow_le_pow_right (by decide) hk
  have u1 : IntKind.u8.wrap (k : Int) = (k : Int) := by rw [IntKind.wrap_u8']; omega
  have HBT := hid bT
  have HNE := hid hne
  have HTO := hid hT
  have HN := hid hn
  have HH := hid hh
  have hbd : ∀ t, t ≤ k → ∀ a, a < n → Bd (e + 6 * t) (stagesF k T (fun a => f (revN k a)) t a) := fun t ht a ha =>
    stagesF_bd hk he0 he1 (by omega) bT (fun i hi => bF _ (by rw [hn]; exact revN_lt k i)) t ht a (by omega)
  have HBD := hid hbd
  have HREV := hid hrev
  clear hn hh hbd bF hf0 hT hne bT hrev
  go_enter Tafg.func23, Tafg.ntmps23
  go_wp2_with (first | (go_at_call 78; refine same_mono (hl _) ?_) | (go_at_call 74; refine same_mono (hfit _) ?_) | (go_at_call 77; refine Calls.mono HREV.out ?_; rintro e w1 ⟨rfl, hown, hfr, hsz⟩))
  go_loopw [6] (fun t wr => ∃ tt : Nat, tt ≤ k ∧ t = .int .u8 ((tt : Int) + 1) ∧ Own CV wr b n (stagesF k T (fun a => f (revN k a)) tt) ∧ Frm [b] w wr ∧ wr.heap.size = w.heap.size) (fun t _ => 12 - (intOf t).toNat)
  case atStart => exact ⟨0, Nat.zero_le _, rfl, hown, hfr, hsz⟩
  case round =>
    obtain ⟨tt, htt, rfl, hown, hfr, hsz⟩ := hrel
    by_cases hlt : tt < k
    · have hstg := stage_any b n cap tb h tcap k tt (2 ^ tt) (2 ^ (k - (tt + 1))) (e + 6 * tt) T (stagesF k T (fun a => f (revN k a)) tt) wr hk (by omega) HN.out HH.out rfl rfl HNE.out (HTO.out.frame hfr (by simpa using HNE.out)) hown (by omega) (by omega) HBT.out (HBD.out tt (by omega))
      have HSTG := hid hstg
      have HFR := hid hfr
      have HSZ := hid hsz
      clear hstg hown hfr hsz
      have d1 : decide ((tt : Int) + 1 ≤ (k : Int)) = true := by simp; omega
      go_wp2_with (first | (go_at_call 79; refine Calls.mono HSTG.out ?_; rintro e w1 ⟨rfl, hown2, hfr2, hsz2⟩))
      go_roundw
      case rel => exact ⟨tt + 1, by omega, by go_num, hown2, HFR.out.trans hfr2, hsz2.trans HSZ.out⟩
      case measure => simp [intOf]; omega
    · have e : tt = k := by omega
      subst e
      have d1 : ¬ ((tt : Int) + 1 ≤ (tt : Int)) := by omega
      have HOWN := hid hown
      have HFR := hid hfr
      have HSZ := hid hsz
      clear hown hfr hsz
      go_wp2
      go_ret
      exact ⟨rfl, HOWN.out, HFR.out, HSZ.out⟩

set_option maxHeartbeats 2000000 in
/-- One point. -/
theorem forward_one (b cap tcap : Nat) (ta : Option Addr) (T f : Nat → Nat × Nat) (w : World) (hf0 : Own CV w b 1 f) :
    Calls Tafg.prog 23 #[.slice (some ⟨b, 0, none⟩) 1 cap, .slice ta 0 tcap] w fun e w' =>
      e = .returned (.bool true) ∧ Own CV w' b 1 (fwdF 0 T f) ∧ Frm [b] w w' ∧ w'.heap.size = w.heap.size := by
  have hl := level_pow 0 1 (by decide) rfl
  have hfit := fits_one
  have hrev := reverse_any b 1 cap 0 f w (by decide) rfl hf0
  have HREV := hid hrev
  clear hf0 hrev
  simp only [Int.natCast_one, Int.natCast_zero] at hl
  go_enter Tafg.func23, Tafg.ntmps23
  go_wp2_with (first | (go_at_call 78; refine same_mono (hl _) ?_) | (go_at_call 74; refine same_mono (hfit _) ?_) | (go_at_call 77; refine Calls.mono HREV.out ?_; rintro e w1 ⟨rfl, hown, hfr, hsz⟩))
  go_loopw [6] (fun t wr => t = .int .u8 1 ∧ Own CV wr b 1 (fwdF 0 T f) ∧ Frm [b] w wr ∧ wr.heap.size = w.heap.size) (fun t _ => 0)
  case atStart => exact ⟨rfl, hown, hfr, hsz⟩
  case round =>
    obtain ⟨rfl, hown, hfr, hsz⟩ := hrel
    go_wp2
    go_ret
    exact ⟨rfl, hown, hfr, hsz⟩
end Go.Proofs.Ygctaf
