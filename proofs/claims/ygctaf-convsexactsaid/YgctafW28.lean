/-
  WALK: fftx.ForwardSplit
-/
import Derived.Test.YgctafW27
import Derived.Test.YgctafW25
namespace Go.Proofs.Ygctaf
open Go.RowKit
attribute [local go_sem] run_store_complex run_store_float CV_eq FV_eq

theorem natc_add (a b : Nat) : ((a : Nat) : Rat) + ((b : Nat) : Rat) = ((a + b : Nat) : Rat) := (Rat.natCast_add a b).symm
def SpT (k : Nat) (x : Nat → Cx) (L : Rat) (e : Int) (n t : Nat) (g : Nat → Nat × Nat) : Prop := SpLev k x L (e + 2 + 8 * (t : Int)) ((4 + 20 * t : Nat) : Rat) n t g
theorem SpT.zero {k : Nat} {x : Nat → Cx} {L : Rat} {e : Int} {n : Nat} {g : Nat → Nat × Nat} (h : SpLev k x L (e + 2) (0 + 4) n 0 g) : SpT k x L e n 0 g := fun i hi => by
  obtain ⟨a, b⟩ := h i hi
  exact ⟨fun hs => (a hs).mono (by omega) (by decide +kernel) (by decide +kernel), fun hs => (b hs).mono (by omega) (by decide +kernel) (by decide +kernel)⟩
theorem SpT.succ {k : Nat} {x : Nat → Cx} {L : Rat} {e : Int} {n t : Nat} {g : Nat → Nat × Nat} (ht : t ≤ 20) (h : SpLev k x L (e + 2 + 8 * (t : Int) + 8) (((4 + 20 * t : Nat) : Rat) + 20) n (t + 1) g) : SpT k x L e n (t + 1) g := fun i hi => by
  obtain ⟨a, b⟩ := h i hi
  have hc : ((4 + 20 * t : Nat) : Rat) + 20 ≤ ((4 + 20 * (t + 1) : Nat) : Rat) := by
    have := natc_add (4 + 20 * t) 20
    rw [show ((20 : Nat) : Rat) = 20 from rfl] at this
    rw [this]; exact natc_le (by omega)
  have h1 : ((4 + 20 * (t + 1) : Nat) : Rat) ≤ 1024 := natc_le (b := 1024) (by omega)
  exact ⟨fun hs => (a hs).mono (by omega) hc h1, fun hs => (b hs).mono (by omega) hc h1⟩
theorem SpT.last {k n t : Nat} {x : Nat → Cx} {L : Rat} {e : Int} {g : Nat → Nat × Nat} (hn : n = 2 ^ k) (hk : k ≤ 11) (ht : t + 1 = k) (h : SpT k x L e n t g) : Lev k x L e n k g := fun i hi => by
  have hs : Sp (i / 2 ^ (t + 1)) := by
    rw [ht, Nat.div_eq_of_lt (by rw [← hn]; exact hi)]
    exact sp_even 0
  have := (h i hi).1 hs
  rw [ht] at this
  exact this.mono (by omega) (natc_le (by omega)) (natc_le (b := 1024) (by omega))

set_option maxRecDepth 20000 in
set_option maxHeartbeats 2000000 in
theorem forwardSplit_any (b n cap tb h tcap k : Nat) (e : Int) (L : Rat) (f : Nat → Nat × Nat) (w : World) (ho : TabOk k h) (hn : n = 2 ^ k) (hh : n = 2 * h)
    (hne : tb ≠ b) (hT : Own CV w tb h (tabF k)) (hX : Own CV w b n f) (he0 : 0 ≤ e) (he1 : e ≤ 600) (hL : p2 (-1015) ≤ L) (hF : ∀ i, i < n → Bd e (f i)) (hf : ∀ i, i < n → Len (cv (f i)) L) :
    Calls Tafg.prog 45 #[.slice (some ⟨b, 0, none⟩) n cap, .slice (some ⟨tb, 0, none⟩) h tcap] w fun r w' =>
      r = .returned (.bool true) ∧ (∃ g, Own CV w' b n g ∧ Lev k (fun i => cv (f i)) L e n k g) ∧ Frm [b] w w' ∧ w'.heap.size = w.heap.size := by
  have hk1 := ho.k1
  have hk := ho.k2
  have hb : n ≤ 2048 := by rw [hn]; exact Nat.pow_le_pow_right (by decide) hk
  have hfit := fitsx_two k h hk1 hk (by omega)
  rw [← hh] at hfit
  have hrev := reverse_any b n cap k f w hk hn hX
  have hn0 : 0 < n := by rw [hn]; exact Nat.two_pow_pos _
  have HF : Hid (∀ i, i < 2 ^ k → Bd e (f i)) := hid (fun i hi => hF i (by rw [hn]; exact hi))
  have HLN : Hid (∀ i, i < 2 ^ k → Len (cv (f i)) L) := hid (fun i hi => hf i (by rw [hn]; exact hi))
  have HO := hid ho
  have HN := hid hn
  have HH := hid hh
  have HTO := hid hT
  have HNE := hid hne
  have hh2 : h ≤ 1024 := by omega
  have hh0 : 0 < h := by omega
  clear ho hn hh hT hX hF hf hne
  go_enter Tafg.func45, Tafg.ntmps45
  go_wp2_with (first | (go_at_call 89; refine same_mono (hfit _) ?_) | fail)
  refine hrev.mono ?_
  rintro r w1 ⟨rfl, hR, f1, s1⟩
  have HR := hid hR
  have HF1 := hid f1
  have HS1 := hid s1
  clear hR f1 s1 hrev
  go_wp2_with fail
  refine (pairsOf_any b n cap h k e 0 L (fun i => cv (f i)) (fun a => f (revN k a)) w1 hk1 HH.out hh0 hh2 HR.out he0 (by omega) (by decide +kernel) (fun i _ => At.start HF.out hL HLN.out i)).mono ?_
  rintro r w2 ⟨rfl, ⟨g2, hg2, hsp2⟩, f2, s2⟩
  have HG2 := hid hg2
  have HSP2 := hid (SpT.zero hsp2)
  have HF2 := hid (HF1.out.trans f2)
  have HS2 := hid (s2.trans HS1.out)
  clear hg2 hsp2 f2 s2 hfit HR HF1 HS1
  go_wp2
  go_loopw [6, 7] (fun sz _ wr => ∃ t z : Nat, t + 1 ≤ k ∧ sz = .int .i64 (z : Int) ∧ z = 2 ^ (t + 2) ∧ (∃ g, Own CV wr b n g ∧ SpT k (fun i => cv (f i)) L e n t g) ∧ Frm [b] w wr ∧ wr.heap.size = w.heap.size) (fun sz _ _ => n + 1 - (intOf sz).toNat)
  case atStart => exact ⟨0, 4, hk1, rfl, rfl, ⟨g2, HG2.out, HSP2.out⟩, HF2.out, HS2.out⟩
  case round =>
    clear HG2 HSP2 HF2 HS2 g2 w1 w2
    obtain ⟨t, z, ht, rfl, hz, ⟨g, hown, hsp⟩, hfr, hsz⟩ := hrel
    by_cases hlt : t + 2 ≤ k
    · obtain ⟨q, hq⟩ : ∃ q, q = 2 ^ t := ⟨_, rfl⟩
      have hzq : z = 4 * q := by rw [hz, hq, Nat.pow_add]; omega
      have hzn : z ≤ n := by rw [hz, HN.out]; exact Nat.pow_le_pow_right (by decide) hlt
      have hq0 : 0 < q := by rw [hq]; exact Nat.two_pow_pos _
      have hu : z ≤ 2048 := by omega
      have d0 : (z : Int) ≤ (n : Int) := by omega
      have HQ := hid hq
      have HZQ := hid hzq
      have HZ := hid hz
      have HOWN := hid hown
      have HSJ := hid (StJ.start hq hsp)
      have HFR := hid hfr
      have HSZ := hid hsz
      have d1 : (z : Int).tdiv 4 = (q : Int) := by rw [Int.tdiv_eq_ediv_of_nonneg (by omega), hzq]; omega
      have d2 : (z : Int) / 4 = (q : Int) := by rw [hzq]; omega
      clear hq hzq hz hown hsp hfr hsz
      go_wp2
      go_loopw [7] (fun j wi => ∃ jj : Nat, jj ≤ q ∧ j = .int .i64 (jj : Int) ∧ (∃ g, Own CV wi b n g ∧ StJ k (fun i => cv (f i)) L (e + 2 + 8 * (t : Int)) ((4 + 20 * t : Nat) : Rat) t q n jj 0 jj g) ∧ Frm [b] w wi ∧ wi.heap.size = w.heap.size) (fun j _ => q - (intOf j).toNat)
      case atStart => exact ⟨0, Nat.zero_le _, rfl, ⟨g, HOWN.out, HSJ.out⟩, HFR.out, HSZ.out⟩
      case round =>
        clear HOWN HSJ HFR HSZ g
        obtain ⟨jj, hjj, rfl, ⟨g, hown, hst⟩, hfr, hsz⟩ := hrel
        by_cases hjl : jj < q
        · have d3 : (jj : Int) < (q : Int) := by omega
          have hp := joinSplit_any b n cap tb h tcap k t q (2 ^ (k - (t + 2))) jj (e + 2 + 8 * (t : Int)) ((4 + 20 * t : Nat) : Rat) L (fun i => cv (f i)) g wr HO.out HH.out hlt HQ.out rfl hjl HNE.out (HTO.out.frame hfr (by simpa using HNE.out)) hown (by omega) (by omega) (by
            have := natc_add (4 + 20 * t) 20
            rw [show ((20 : Nat) : Rat) = 20 from rfl] at this
            rw [this]; exact natc_le (b := 1000) (by omega)) hst
          rw [← HZQ.out] at hp
          have HP := hid hp
          have HFR := hid hfr
          have HSZ := hid hsz
          clear hp hfr hsz hown hst
          go_wp2_with fail
          refine Calls.mono HP.out ?_
          rintro r w3 ⟨rfl, ⟨g3, ho3, hs3⟩, f3, s3⟩
          have HO3 := hid ho3
          have HS3 := hid hs3
          have HFR3 := hid (HFR.out.trans f3)
          have HSZ3 := hid (s3.trans HSZ.out)
          clear ho3 hs3 f3 s3 HP
          go_wp2
          go_roundw
          case rel => exact ⟨jj + 1, by omega, by go_num, ⟨g3, HO3.out, HS3.out⟩, HFR3.out, HSZ3.out⟩
          case measure => simp [intOf]; omega
        · have e' : jj = q := by omega
          subst e'
          have hc : ((4 + 20 * t : Nat) : Rat) + 20 ≤ 1024 := by
            have := natc_add (4 + 20 * t) 20
            rw [show ((20 : Nat) : Rat) = 20 from rfl] at this
            rw [this]; exact natc_le (b := 1024) (by omega)
          have HSP := hid (SpT.succ (by omega) (hst.fin HQ.out hc))
          have HOW := hid hown
          have HFR := hid hfr
          have HSZ := hid hsz
          clear hst hown hfr hsz hc
          go_wp2
          go_roundw
          case rel => exact ⟨t + 1, 2 * z, hlt, by go_num, by rw [HZ.out, Nat.pow_succ 2 (t + 2)]; omega, ⟨g, HOW.out, HSP.out⟩, HFR.out, HSZ.out⟩
          case measure => simp [intOf]; omega
    · have htk : t + 1 = k := by omega
      have d0 : ¬ ((z : Int) ≤ (n : Int)) := by
        have : n < z := by rw [hz, HN.out]; exact Nat.pow_lt_pow_right (by decide) (by omega)
        omega
      have HLV := hid (hsp.last HN.out hk htk)
      have HOW := hid hown
      have HFR := hid hfr
      have HSZ := hid hsz
      clear hsp hown hfr hsz hz
      go_wp2
      go_ret
      exact ⟨rfl, ⟨g, HOW.out, HLV.out⟩, HFR.out, HSZ.out⟩
end Go.Proofs.Ygctaf
