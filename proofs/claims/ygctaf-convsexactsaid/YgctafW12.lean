/-
  WALKS: fft.points, fft.Raw.
-/
import Derived.Test.YgctafW7
import Derived.Test.YgctafW11
import Derived.Deep.RegionWith
namespace Go.Proofs.Ygctaf
open Go.RowKit
attribute [local go_sem] run_store_complex run_store_float CV_eq FV_eq

/-- The digits as points. -/
def ptsF (la : Nat) (za : Nat → Int) : Nat → Nat × Nat := fun i => if i < la then (fint (za i), 0) else (0, 0)
theorem ptsF_bd {la : Nat} {za : Nat → Int} (h : ∀ i, i < la → 0 ≤ za i ∧ za i ≤ 255) : ∀ i, Bd 8 (ptsF la za i) := by
  intro i
  unfold ptsF
  split
  · rename_i hi
    have := h i hi
    exact ⟨B1.int (e := 8) (by omega) (by decide), B1.zero 8⟩
  · exact ⟨B1.zero 8, B1.zero 8⟩

set_option maxHeartbeats 1000000 in
theorem points_any (ab off la cap n : Nat) (za : Nat → Int) (w : World) (hb : ab < w.heap.size) (hla : la ≤ n) (hn : n ≤ 4096) (hr : Rd (Value.int .u8) w ab off la za) :
    Calls Tafg.prog 86 #[.slice (some ⟨ab, off, none⟩) la cap, .int .i64 (n : Int)] w fun e w' =>
      e = .returned (.slice (some ⟨w.heap.size, 0, none⟩) n n) ∧ Own CV w' w.heap.size n (ptsF la za) ∧ Frm [] w w' ∧ w'.heap.size = w.heap.size + 1 := by
  have hmk := make_c n (by omega)
  have hfi := floatOfInt_eq
  have HR := hid hr
  clear hr
  go_enter Tafg.func86, Tafg.ntmps86
  go_wp2
  go_loopw [6] (fun i wr => ∃ k : Nat, k ≤ la ∧ i = .int .i64 k ∧ Own CV wr w.heap.size n (fun j => if j < k then ptsF la za j else (0, 0)) ∧ Frm [] w wr ∧ wr.heap.size = w.heap.size + 1) (fun i _ => la - (intOf i).toNat)
  case atStart => exact ⟨0, Nat.zero_le _, rfl, by simpa using Own.madeC, (Frm.refl _ _).alloc _, by simp⟩
  case round =>
    obtain ⟨k, hk, rfl, hown, hfr, hsz⟩ := hrel
    by_cases hlt : k < la
    · have c1 : wr.cell? ⟨ab, off + k, none⟩ = some (.int .u8 (za k)) := (HR.out.frame hfr hb (by simp)) k hlt
      obtain ⟨old, c3, c4⟩ := hown.get (show k < n by omega)
      have hst := hown.step (show k < n by omega) (v := .complex .f64 (fint (za k)) 0) (by unfold ptsF; rw [if_pos hlt]; rfl)
      have HST := hid hst
      have HFR := hid hfr
      have HSZ := hid hsz
      clear hst hown hfr hsz
      go_wp2
      go_roundw
      case rel => exact ⟨k + 1, by omega, by go_num, HST.out, HFR.out.setCell (.inr (Nat.le_refl _)) _, by simpa using HSZ.out⟩
      case measure => simp [intOf]; omega
    · have hfull : Own CV wr w.heap.size n (ptsF la za) := hown.congr fun i _ => by
        by_cases g : i < k
        · rw [if_pos g]
        · rw [if_neg g]; unfold ptsF; rw [if_neg (by omega)]
      have HST := hid hfull
      have HFR := hid hfr
      have HSZ := hid hsz
      clear hfull hown hfr hsz
      go_wp2
      go_ret
      exact ⟨rfl, HST.out, HFR.out, HSZ.out⟩

/-- The least level, from 1 on, whose points hold m sums. -/
def IsLvl (m q : Nat) : Prop := m ≤ 2 ^ (q + 1) ∧ (q = 0 ∨ 2 ^ q < m)
theorem isLvl_ex (m : Nat) : ∀ q, m ≤ 2 ^ (q + 1) → ∃ p, p ≤ q ∧ IsLvl m p
  | 0, h => ⟨0, Nat.le_refl _, h, .inl rfl⟩
  | q + 1, h => by
    by_cases g : m ≤ 2 ^ (q + 1)
    · obtain ⟨p, hp, hq⟩ := isLvl_ex m q g
      exact ⟨p, by omega, hq⟩
    · exact ⟨q + 1, Nat.le_refl _, h, .inr (by omega)⟩
theorem isLvl_more {m q p : Nat} (h : IsLvl m q) (hp : p < q) : 2 ^ (p + 1) < m := by
  rcases h.2 with h0 | h0
  · omega
  · exact Nat.lt_of_le_of_lt (Nat.pow_le_pow_right (by decide) (by omega)) h0

/-- '1 << p', as a rule that omega does not look at. -/
theorem wrap_at {j x : Nat} (h : j ≤ 62) (hx : x = 2 ^ j) : ∀ i, i = j → wrap64 ((2 : Int) ^ i) = (x : Int) := by
  rintro i rfl; rw [wrap_pow h, hx]

/-- fft.Raw -/
def rawF (k la : Nat) (za : Nat → Int) (lb : Nat) (zb : Nat → Int) : Nat → Nat × Nat :=
  invF k (tabF k) fun i => cmul (fwdF k (tabF k) (ptsF la za) i) (fwdF k (tabF k) (ptsF lb zb) i)

theorem tabF_bd (q : Nat) (hq : q ≤ 10) : ∀ i, i < 2 ^ q → Bd 1 (tabF (q + 1) i) := fun i hi => tab_bd (q + 1) q i (by omega) (by omega) (by omega) hi

theorem rawF_bds {q la lb : Nat} {za zb : Nat → Int} (hq : q ≤ 10) (ha : ∀ i, i < la → 0 ≤ za i ∧ za i ≤ 255) (hb : ∀ i, i < lb → 0 ≤ zb i ∧ zb i ≤ 255) :
    (∀ i, i < 2 ^ (q + 1) → Bd 74 (fwdF (q + 1) (tabF (q + 1)) (ptsF la za) i)) ∧ (∀ i, i < 2 ^ (q + 1) → Bd 74 (fwdF (q + 1) (tabF (q + 1)) (ptsF lb zb) i)) ∧
    (∀ i, i < 2 ^ (q + 1) → Bd 151 (cmul (fwdF (q + 1) (tabF (q + 1)) (ptsF la za) i) (fwdF (q + 1) (tabF (q + 1)) (ptsF lb zb) i))) ∧
    (∀ i, i < 2 ^ (q + 1) → Bd 218 (rawF (q + 1) la za lb zb i)) := by
  have hp : 2 ^ (q + 1) = 2 * 2 ^ q := by rw [Nat.pow_succ]; omega
  have h1 : ∀ i, i < 2 ^ (q + 1) → Bd 74 (fwdF (q + 1) (tabF (q + 1)) (ptsF la za) i) := fun i hi => (fwdF_bd (e := 8) (h := 2 ^ q) (by omega) (by decide) (by decide) (.inr hp) (tabF_bd q hq) (fun i _ => ptsF_bd ha i) i hi).mono (by decide)
  have h2 : ∀ i, i < 2 ^ (q + 1) → Bd 74 (fwdF (q + 1) (tabF (q + 1)) (ptsF lb zb) i) := fun i hi => (fwdF_bd (e := 8) (h := 2 ^ q) (by omega) (by decide) (by decide) (.inr hp) (tabF_bd q hq) (fun i _ => ptsF_bd hb i) i hi).mono (by decide)
  have h3 : ∀ i, i < 2 ^ (q + 1) → Bd 151 (cmul (fwdF (q + 1) (tabF (q + 1)) (ptsF la za) i) (fwdF (q + 1) (tabF (q + 1)) (ptsF lb zb) i)) := fun i hi => ((h1 i hi).mul (h2 i hi) (by decide) (by decide)).mono (by decide)
  exact ⟨h1, h2, h3, fun i hi => (invF_bd (e := 151) (h := 2 ^ q) (by omega) (by decide) (by decide) (.inr hp) (tabF_bd q hq) h3 i hi).mono (by decide)⟩

set_option maxHeartbeats 2000000 in
theorem raw_any (ab aoff la acap bb boff lb bcap q n : Nat) (za zb : Nat → Int) (w : World) (ha1 : 1 ≤ la) (ha2 : la ≤ 512) (hb1 : 1 ≤ lb) (hb2 : lb ≤ 512) (hq : q ≤ 9) (hlv : IsLvl (la + lb - 1) q) (hn : n = 2 ^ (q + 1))
    (hab : ab < w.heap.size) (hbb : bb < w.heap.size) (hra : Rd (Value.int .u8) w ab aoff la za) (hrb : Rd (Value.int .u8) w bb boff lb zb)
    (va : ∀ i, i < la → 0 ≤ za i ∧ za i ≤ 255) (vb : ∀ i, i < lb → 0 ≤ zb i ∧ zb i ≤ 255) :
    Calls Tafg.prog 35 #[.slice (some ⟨ab, aoff, none⟩) la acap, .slice (some ⟨bb, boff, none⟩) lb bcap] w fun e w' =>
      ∃ B, e = .returned (.slice (some ⟨B, 0, none⟩) n n) ∧ w.heap.size ≤ B ∧ Own CV w' B n (rawF (q + 1) la za lb zb) ∧ Frm [] w w' := by
  have hm := hlv.1
  have hb3 : n ≤ 1024 := by
    have : 2 ^ (q + 1) ≤ 2 ^ 10 := Nat.pow_le_pow_right (by decide) (by omega)
    omega
  have d1 : ((la : Int) == 0) = false := by simp; omega
  have d2 : ((lb : Int) == 0) = false := by simp; omega
  have d3 : decide ((512 : Int) < (la : Int)) = false := by simp; omega
  have d4 : decide ((512 : Int) < (lb : Int)) = false := by simp; omega
  have hbds := rawF_bds (q := q) (la := la) (lb := lb) (za := za) (zb := zb) (by omega) va vb
  rw [← hn] at hbds
  have hnh : n = 2 * 2 ^ q := by rw [hn, Nat.pow_succ]; omega
  have HBDS := hid hbds
  have HNH := hid hnh
  have HLV := hid hlv
  have HN := hid hn
  have HRA := hid hra
  have HRB := hid hrb
  have HTB := hid (tabF_bd q (by omega))
  have HPA := hid (ptsF_bd va)
  have HPB := hid (ptsF_bd vb)
  clear hlv hn hra hrb va vb hbds hnh
  go_enter Tafg.func35, Tafg.ntmps35
  go_wp2
  go_loop [5] (fun s => ∃ p : Nat, 1 ≤ p ∧ p ≤ q + 1 ∧ s = .int .u8 (p : Int)) (fun s => 20 - (intOf s).toNat)
  case atStart => exact ⟨1, Nat.le_refl _, by omega, rfl⟩
  case round =>
    obtain ⟨p, hp1, hp, rfl⟩ := hrel
    by_cases hlt : p < q + 1
    · have hmore : 2 ^ p < la + lb - 1 := by have := isLvl_more HLV.out (p := p - 1) (by omega); rwa [show p - 1 + 1 = p from by omega] at this
      obtain ⟨pp, hpp⟩ : ∃ x, x = 2 ^ p := ⟨_, rfl⟩
      rw [← hpp] at hmore
      have c1 : (pp : Int) < (la : Int) + (lb : Int) - 1 := by omega
      have w1 := wrap_at (j := p) (by omega) hpp
      clear hpp hmore
      go_wp2
      go_round
      case rel => exact ⟨p + 1, by omega, by omega, by go_num⟩
      case measure => simp [intOf]; omega
    · have e : p = q + 1 := by omega
      subst e
      have hnb : n ≤ 1024 := hb3
      have c1 : ¬ ((n : Int) < (la : Int) + (lb : Int) - 1) := by have := HN.out; omega
      have w1 := wrap_at (j := q + 1) (by omega) HN.out
      obtain ⟨h, hh⟩ : ∃ h, h = 2 ^ q := ⟨_, rfl⟩
      have hh2 : n = 2 * h := by rw [hh]; exact HNH.out
      have HH := hid hh
      have HH2 := hid hh2
      clear hh hh2
      go_wp2_with fail
      refine (table_any q h (by omega) HH.out _).mono ?_
      rintro e w2 ⟨rfl, hT, hfr1⟩
      have hs1 := hT.1
      go_wp2_with fail
      refine (points_any ab aoff la acap n za _ (by omega) (by omega) (by omega) (HRA.out.frame hfr1 hab (by simp))).mono ?_
      rintro e w3 ⟨rfl, hX, hfr2, hsz2⟩
      have hfr3 : Frm [] w w3 := hfr1.trans hfr2
      have hT3 := hT.frame hfr2 (by simp)
      go_wp2_with fail
      refine (points_any bb boff lb bcap n zb _ (by omega) (by omega) (by omega) (HRB.out.frame hfr3 hbb (by simp))).mono ?_
      rintro e w4 ⟨rfl, hY, hfr4, hsz4⟩
      have hfr5 : Frm [] w w4 := hfr3.trans hfr4
      have hT4 := hT3.frame hfr4 (by simp)
      have hX4 := hX.frame hfr4 (by simp)
      rw [hsz2] at hY
      obtain ⟨X, hXe⟩ : ∃ X, X = w2.heap.size := ⟨_, rfl⟩
      obtain ⟨TB, hTe⟩ : ∃ X, X = w.heap.size := ⟨_, rfl⟩
      clear hT hT3 hX hfr1 hfr2 hfr3 hfr4
      go_wp2_with fail
      refine (forward_any w2.heap.size n n w.heap.size h h (q + 1) 8 (tabF (q + 1)) (ptsF la za) _ (by omega) (by omega) HN.out HH2.out (by omega) hT4 hX4 (by decide) (by decide) (by rw [HH.out]; exact HTB.out) (fun i _ => HPA.out i)).mono ?_
      rintro e w5 ⟨rfl, hX5, hfr6, hsz5⟩
      have hT5 := hT4.frame hfr6 (by simp; omega)
      have hY5 := hY.frame hfr6 (by simp)
      have hfr7 : Frm [] w w5 := hfr5.seq hfr6 (by simp) (by intro i hi hl; simp at hi; omega)
      clear hT4 hX4 hY hfr5 hfr6
      go_wp2_with fail
      refine (forward_any (w2.heap.size + 1) n n w.heap.size h h (q + 1) 8 (tabF (q + 1)) (ptsF lb zb) _ (by omega) (by omega) HN.out HH2.out (by omega) hT5 hY5 (by decide) (by decide) (by rw [HH.out]; exact HTB.out) (fun i _ => HPB.out i)).mono ?_
      rintro e w6 ⟨rfl, hY6, hfr8, hsz6⟩
      have hT6 := hT5.frame hfr8 (by simp; omega)
      have hX6 := hX5.frame hfr8 (by simp)
      have hfr9 : Frm [] w w6 := hfr7.seq hfr8 (by simp) (by intro i hi hl; simp at hi; omega)
      obtain ⟨FX, hFX⟩ : ∃ g, g = fwdF (q + 1) (tabF (q + 1)) (ptsF la za) := ⟨_, rfl⟩
      obtain ⟨FY, hFY⟩ : ∃ g, g = fwdF (q + 1) (tabF (q + 1)) (ptsF lb zb) := ⟨_, rfl⟩
      have hB1 : ∀ i, i < n → Bd 74 (FX i) := by rw [hFX]; exact HBDS.out.1
      have hB2 : ∀ i, i < n → Bd 74 (FY i) := by rw [hFY]; exact HBDS.out.2.1
      rw [← hFX] at hX6
      rw [← hFY] at hY6
      have HFX := hid hFX
      have HFY := hid hFY
      have HB1 := hid hB1
      have HB2 := hid hB2
      have HT6 := hid hT6
      have HX6 := hid hX6
      have HY6 := hid hY6
      have HFR9 := hid hfr9
      have hs5 : w2.heap.size + 1 < w6.heap.size := hY6.1
      clear hT5 hX5 hY5 hfr7 hfr8 hFX hFY hB1 hB2 hT6 hX6 hY6 hfr9 hsz2 hsz4 hsz5 hsz6 hXe hTe
      go_wp2
      go_loopw [9] (fun i wr => ∃ k : Nat, k ≤ n ∧ i = .int .i64 k ∧ Own CV wr w2.heap.size n (fun j => if j < k then cmul (FX j) (FY j) else FX j) ∧ Own CV wr (w2.heap.size + 1) n FY ∧ Own CV wr w.heap.size h (tabF (q + 1)) ∧ Frm [] w wr) (fun i _ => n - (intOf i).toNat)
      case atStart => exact ⟨0, Nat.zero_le _, rfl, by simpa using HX6.out, HY6.out, HT6.out, HFR9.out⟩
      case round =>
        obtain ⟨k, hk, rfl, hX, hY, hT, hfr⟩ := hrel
        by_cases hlt : k < n
        · have c1 := hX.cell hlt
          rw [if_neg (Nat.lt_irrefl k)] at c1
          have c2 := hX.free hlt
          have c3 := hY.cell hlt
          have hmul := mul_any _ _ (HB1.out k hlt) (HB2.out k hlt) (by decide) (by decide)
          have hst := hX.step hlt (v := CV (cmul (FX k) (FY k))) rfl
          have hY2 := hY.setCell_other (c := w2.heap.size) (i := k) (by omega) (CV (cmul (FX k) (FY k)))
          have hT2 := hT.setCell_other (c := w2.heap.size) (i := k) (by omega) (CV (cmul (FX k) (FY k)))
          have hfr2 := hfr.setCell (p := ⟨w2.heap.size, k, none⟩) (.inr (by simp; omega)) (CV (cmul (FX k) (FY k)))
          have HST := hid hst
          have HY2 := hid hY2
          have HT2 := hid hT2
          have HFR2 := hid hfr2
          clear hst hY2 hT2 hfr2 hX hY hT hfr
          have b5 : (0 : Int) ≤ (k : Int) := by omega
          have b6 : (k : Int) < (n : Int) := by omega
          go_wp2
          go_region_with (go_at_call 70; refine same_mono (hmul _) ?_)
          all_goals go_wp2
          all_goals
            go_roundw
            case rel => exact ⟨k + 1, by omega, by go_num, HST.out.drew, HY2.out.drew, HT2.out.drew, HFR2.out.drew⟩
            case measure => simp [intOf]; omega
        · have hX2 := hX.full (by omega)
          have hinv := inverse_any w2.heap.size n n w.heap.size h h (q + 1) 151 (tabF (q + 1)) (fun i => cmul (FX i) (FY i)) wr (by omega) (by omega) HN.out HH2.out (by omega) hT hX2 (by decide) (by decide) (by rw [HH.out]; exact HTB.out) (fun i hi => ((HB1.out i hi).mul (HB2.out i hi) (by decide) (by decide)).mono (by decide))
          have HINV := hid hinv
          have HFR := hid hfr
          clear hinv hX hX2 hY hT hfr
          go_wp2_with fail
          refine Calls.mono HINV.out ?_
          rintro e w7 ⟨rfl, hown7, hfr7⟩
          go_wp2
          go_ret
          refine ⟨w2.heap.size, rfl, by omega, ?_, HFR.out.seq hfr7 (by simp) (by intro i hi hl; simp at hi; omega)⟩
          unfold rawF
          rw [← HFX.out, ← HFY.out]
          exact hown7
end Go.Proofs.Ygctaf
