/-
  WALK: fftx.Forward4
-/
import Derived.Test.YgctafW24
import Derived.Test.YgctafW10
namespace Go.Proofs.Ygctaf
open Go.RowKit
attribute [local go_sem] run_store_complex run_store_float CV_eq FV_eq

theorem natc_le {a b : Nat} (h : a ≤ b) : ((a : Nat) : Rat) ≤ ((b : Nat) : Rat) := Rat.natCast_le_natCast.2 h
/-- The state between passes: every point at level t. -/
def Lev (k : Nat) (x : Nat → Cx) (L : Rat) (e : Int) (n t : Nat) (g : Nat → Nat × Nat) : Prop := ∀ i, i < n → At k x L (e + 8 * (t : Int)) ((28 * t : Nat) : Rat) t (g i) i
theorem Lev.four {k : Nat} {x : Nat → Cx} {L : Rat} {e : Int} {n t : Nat} {g : Nat → Nat × Nat} (ht : t ≤ 20) (h : ∀ i, i < n → At k x L (e + 8 * (t : Int) + 8) (((28 * t : Nat) : Rat) + 28) (t + 2) (g i) i) : Lev k x L e n (t + 2) g := fun i hi => by
  refine (h i hi).mono (by omega) ?_ ?_
  · have : ((28 * t : Nat) : Rat) + 28 = ((28 * t + 28 : Nat) : Rat) := by rw [Rat.natCast_add]; rfl
    rw [this]; exact natc_le (by omega)
  · exact natc_le (b := 1024) (by omega)
theorem Lev.one {k n h sp : Nat} {f : Nat → Nat × Nat} {L : Rat} {e : Int} (ho : TabOk k h) (h0 : 0 ≤ e) (h1 : e ≤ 800) (hF : ∀ i, i < 2 ^ k → Bd e (f i)) (hL : p2 (-1015) ≤ L) (hf : ∀ i, i < 2 ^ k → Len (cv (f i)) L) :
    Lev k (fun i => cv (f i)) L e n 1 (stageF 1 sp (tabF k) (fun a => f (revN k a))) := fun i hi => by
  have hk := ho.k1
  have hh0 : 0 < h := by rw [ho.hh]; exact Nat.two_pow_pos _
  have st : ∀ i, At k (fun i => cv (f i)) L e 0 0 (f (revN k i)) i := At.start hF hL hf
  have t0 : tabF k 0 = wF h (tabF k) 0 := by unfold wF; rw [if_pos hh0]
  have bT : Bd 1 (tabF k 0) := by rw [t0]; exact ho.bd 0 (by omega)
  have rT := ho.near 0 (by omega)
  rw [← t0] at rT
  have key : ∀ s, At k (fun i => cv (f i)) L (e + 6) (0 + 16) 1 (cadd (f (revN k (2 * s))) (cmul (f (revN k (2 * s + 1))) (tabF k 0))) (2 * s) ∧ At k (fun i => cv (f i)) L (e + 6) (0 + 16) 1 (csub (f (revN k (2 * s))) (cmul (f (revN k (2 * s + 1))) (tabF k 0))) (2 * s + 1) := fun s => by
    have := At.two (k := k) (x := fun i => cv (f i)) (L := L) (c := 0) (e := e) (t := 0) (s := s) (j := 0) (h := 1) (p := 2 * s) (A := f (revN k (2 * s))) (B := f (revN k (2 * s + 1))) (T := tabF k 0) (by omega) rfl (by decide) (by omega) h0 h1 (by decide +kernel) (st _) (st _) bT (by rw [Nat.zero_mul]; exact rT)
    exact this
  have mo : ∀ {v i}, At k (fun i => cv (f i)) L (e + 6) (0 + 16) 1 v i → At k (fun i => cv (f i)) L (e + 8 * ((1 : Nat) : Int)) ((28 * 1 : Nat) : Rat) 1 v i := fun h => h.mono (by omega) (by decide +kernel) (by decide +kernel)
  unfold stageF
  split
  · rename_i hc
    obtain ⟨s, rfl⟩ : ∃ s, i = 2 * s := ⟨i / 2, by omega⟩
    have e1 : 2 * s % (2 * 1) = 0 := by omega
    rw [e1, Nat.zero_mul]
    exact mo (key s).1
  · rename_i hc
    obtain ⟨s, rfl⟩ : ∃ s, i = 2 * s + 1 := ⟨i / 2, by omega⟩
    have e1 : (2 * s + 1) % (2 * 1) = 1 := by omega
    rw [e1, Nat.sub_self, Nat.zero_mul, Nat.add_sub_cancel]
    exact mo (key s).2

set_option maxRecDepth 20000 in
set_option maxHeartbeats 2000000 in
theorem forward4_any (b n cap tb h tcap k : Nat) (e : Int) (L : Rat) (f : Nat → Nat × Nat) (w : World) (ho : TabOk k h) (hn : n = 2 ^ k) (hh : n = 2 * h)
    (hne : tb ≠ b) (hT : Own CV w tb h (tabF k)) (hX : Own CV w b n f) (he0 : 0 ≤ e) (he1 : e ≤ 700) (hL : p2 (-1015) ≤ L) (hF : ∀ i, i < n → Bd e (f i)) (hf : ∀ i, i < n → Len (cv (f i)) L) :
    Calls Tafg.prog 44 #[.slice (some ⟨b, 0, none⟩) n cap, .slice (some ⟨tb, 0, none⟩) h tcap] w fun r w' =>
      r = .returned (.bool true) ∧ (∃ g, Own CV w' b n g ∧ Lev k (fun i => cv (f i)) L e n k g) ∧ Frm [b] w w' ∧ w'.heap.size = w.heap.size := by
  have hk1 := ho.k1
  have hk := ho.k2
  have hb : n ≤ 2048 := by rw [hn]; exact Nat.pow_le_pow_right (by decide) hk
  have hfit := fitsx_two k h hk1 hk (by omega)
  rw [← hh] at hfit
  have hlev := levelx_pow k n hk hn
  have hrev := reverse_any b n cap k f w hk hn hX
  have HF : Hid (∀ i, i < 2 ^ k → Bd e (f i)) := hid (fun i hi => hF i (by rw [hn]; exact hi))
  have HLN : Hid (∀ i, i < 2 ^ k → Len (cv (f i)) L) := hid (fun i hi => hf i (by rw [hn]; exact hi))
  have HO := hid ho
  have HN := hid hn
  have HH := hid hh
  have HTO := hid hT
  have HNE := hid hne
  clear ho hn hh hT hX hF hf hne
  -- the loop, whatever the start
  go_enter Tafg.func44, Tafg.ntmps44
  go_wp2_with (first | (go_at_call 89; refine same_mono (hfit _) ?_) | fail)
  refine hrev.mono ?_
  rintro r w1 ⟨rfl, hR, f1, s1⟩
  have HR := hid hR
  have HF1 := hid f1
  have HS1 := hid s1
  clear hR f1 s1 hrev
  rcases Nat.mod_two_eq_zero_or_one k with hpk | hpk
  · have p1 : (k : Int) % 2 = 0 := by omega
    have p2' : (k : Int).tmod 2 = 0 := by rw [Int.tmod_eq_emod_of_nonneg (by omega)]; omega
    go_wp2_with (first | (go_at_call 90; refine same_mono (hlev _) ?_) | fail)
    clear p1 p2' hlev hfit
    go_loopw [6] (fun sz wr => ∃ t z : Nat, t ≤ k ∧ (k - t) % 2 = 0 ∧ sz = .int .i64 (z : Int) ∧ z = 2 ^ t ∧ (∃ g, Own CV wr b n g ∧ Lev k (fun i => cv (f i)) L e n t g) ∧ Frm [b] w wr ∧ wr.heap.size = w.heap.size) (fun sz _ => n - (intOf sz).toNat)
    case atStart => exact ⟨0, 1, Nat.zero_le _, by omega, rfl, rfl, ⟨_, HR.out, fun i _ => (At.start HF.out hL HLN.out i).mono (by omega) (by decide +kernel) (by decide +kernel)⟩, HF1.out, HS1.out⟩
    case round =>
      obtain ⟨t, z, ht, hpar, rfl, hz, ⟨g, hown, hlv⟩, hfr, hsz⟩ := hrel
      by_cases hlt : t < k
      · have ht2 : t + 2 ≤ k := by omega
        have hzn : 4 * z ≤ n := by
          rw [hz, HN.out, show (4 : Nat) = 2 ^ 2 from rfl, ← Nat.pow_add]
          exact Nat.pow_le_pow_right (by decide) (by omega)
        have hz0 : 0 < z := by rw [hz]; exact Nat.two_pow_pos _
        have z1 : (z : Int) < (n : Int) := by omega
        have hp := pass4_any b n cap tb h tcap k t z (2 ^ (k - (t + 2))) (e + 8 * (t : Int)) ((28 * t : Nat) : Rat) L (fun i => cv (f i)) g wr HO.out HH.out ht2 hz rfl HNE.out (HTO.out.frame hfr (by simpa using HNE.out)) hown (by omega) (by omega) (by
          have : ((28 * t : Nat) : Rat) + 28 = ((28 * t + 28 : Nat) : Rat) := by rw [Rat.natCast_add]; rfl
          rw [this]; exact natc_le (b := 1000) (by omega)) hlv
        have HP := hid hp
        have HFR := hid hfr
        have HSZ := hid hsz
        have HZ := hid hz
        clear hp hfr hsz hown hlv hz
        go_wp2_with fail
        refine Calls.mono HP.out ?_
        rintro r w2 ⟨rfl, ⟨g2, ho2, hl2⟩, f2, s2⟩
        have HO2 := hid ho2
        have HL2 := hid (Lev.four (by omega) hl2)
        have HFR2 := hid (HFR.out.trans f2)
        have HSZ2 := hid (s2.trans HSZ.out)
        clear ho2 hl2 f2 s2 HP
        go_wp2
        go_roundw
        case rel => exact ⟨t + 2, 4 * z, ht2, by omega, by go_num, by rw [HZ.out, Nat.pow_add]; omega, ⟨g2, HO2.out, HL2.out⟩, HFR2.out, HSZ2.out⟩
        case measure => simp [intOf]; omega
      · have e' : t = k := by omega
        subst e'
        have z1 : ¬ ((z : Int) < (n : Int)) := by rw [hz, HN.out]; omega
        have HOW := hid hown
        have HLV := hid hlv
        have HFR := hid hfr
        have HSZ := hid hsz
        clear hown hlv hfr hsz hz
        go_wp2
        go_ret
        exact ⟨rfl, ⟨g, HOW.out, HLV.out⟩, HFR.out, HSZ.out⟩
  · have p1 : (k : Int) % 2 = 1 := by omega
    have p2' : (k : Int).tmod 2 = 1 := by rw [Int.tmod_eq_emod_of_nonneg (by omega)]; omega
    go_wp2_with (first | (go_at_call 90; refine same_mono (hlev _) ?_) | fail)
    clear p1 p2' hlev hfit
    have hst := stage_any b n cap tb h tcap k 0 1 (2 ^ (k - 1)) e (tabF k) (fun a => f (revN k a)) w1 hk hk1 HN.out HH.out rfl rfl HNE.out (HTO.out.frame HF1.out (by simpa using HNE.out)) HR.out he0 (by omega)
      (fun i hi => tab_bd k (k - 1) i hk1 hk (by omega) (by rw [← HO.out.hh]; exact hi)) (fun i _ => HF.out _ (revN_lt k i))
    refine Calls.mono hst ?_
    rintro r w2 ⟨rfl, hS, f2, s2⟩
    have HS := hid hS
    have HF2 := hid (HF1.out.trans f2)
    have HS2 := hid (s2.trans HS1.out)
    clear hS f2 s2 hst
    go_wp2
    go_loopw [6] (fun sz wr => ∃ t z : Nat, t ≤ k ∧ (k - t) % 2 = 0 ∧ sz = .int .i64 (z : Int) ∧ z = 2 ^ t ∧ (∃ g, Own CV wr b n g ∧ Lev k (fun i => cv (f i)) L e n t g) ∧ Frm [b] w wr ∧ wr.heap.size = w.heap.size) (fun sz _ => n - (intOf sz).toNat)
    case atStart => exact ⟨1, 2, hk1, by omega, rfl, rfl, ⟨_, HS.out, Lev.one HO.out he0 (by omega) HF.out hL HLN.out⟩, HF2.out, HS2.out⟩
    case round =>
      obtain ⟨t, z, ht, hpar, rfl, hz, ⟨g, hown, hlv⟩, hfr, hsz⟩ := hrel
      by_cases hlt : t < k
      · have ht2 : t + 2 ≤ k := by omega
        have hzn : 4 * z ≤ n := by
          rw [hz, HN.out, show (4 : Nat) = 2 ^ 2 from rfl, ← Nat.pow_add]
          exact Nat.pow_le_pow_right (by decide) (by omega)
        have hz0 : 0 < z := by rw [hz]; exact Nat.two_pow_pos _
        have z1 : (z : Int) < (n : Int) := by omega
        have hp := pass4_any b n cap tb h tcap k t z (2 ^ (k - (t + 2))) (e + 8 * (t : Int)) ((28 * t : Nat) : Rat) L (fun i => cv (f i)) g wr HO.out HH.out ht2 hz rfl HNE.out (HTO.out.frame hfr (by simpa using HNE.out)) hown (by omega) (by omega) (by
          have : ((28 * t : Nat) : Rat) + 28 = ((28 * t + 28 : Nat) : Rat) := by rw [Rat.natCast_add]; rfl
          rw [this]; exact natc_le (b := 1000) (by omega)) hlv
        have HP := hid hp
        have HFR := hid hfr
        have HSZ := hid hsz
        have HZ := hid hz
        clear hp hfr hsz hown hlv hz
        go_wp2_with fail
        refine Calls.mono HP.out ?_
        rintro r w2 ⟨rfl, ⟨g2, ho2, hl2⟩, f2, s2⟩
        have HO2 := hid ho2
        have HL2 := hid (Lev.four (by omega) hl2)
        have HFR2 := hid (HFR.out.trans f2)
        have HSZ2 := hid (s2.trans HSZ.out)
        clear ho2 hl2 f2 s2 HP
        go_wp2
        go_roundw
        case rel => exact ⟨t + 2, 4 * z, ht2, by omega, by go_num, by rw [HZ.out, Nat.pow_add]; omega, ⟨g2, HO2.out, HL2.out⟩, HFR2.out, HSZ2.out⟩
        case measure => simp [intOf]; omega
      · have e' : t = k := by omega
        subst e'
        have z1 : ¬ ((z : Int) < (n : Int)) := by rw [hz, HN.out]; omega
        have HOW := hid hown
        have HLV := hid hlv
        have HFR := hid hfr
        have HSZ := hid hsz
        clear hown hlv hfr hsz hz
        go_wp2
        go_ret
        exact ⟨rfl, ⟨g, HOW.out, HLV.out⟩, HFR.out, HSZ.out⟩
end Go.Proofs.Ygctaf
