/-
  WALKS: fftx.level, fftx.fits, fftx.turn, fftx.pass4
-/
import Derived.Test.YgctafLvl2
import Derived.Test.YgctafW9
import Derived.Test.YgctafW17
namespace Go.Proofs.Ygctaf
open Go.RowKit
attribute [local go_sem] run_store_complex run_store_float CV_eq FV_eq

theorem levelx_pow (k n : Nat) (hk : k ≤ 11) (hn : n = 2 ^ k) (w : World) :
    Calls Tafg.prog 90 #[.int .i64 (n : Int)] w fun e w' => e = .returned (.int .i64 k) ∧ w' = w := by
  have HN : Hid (n = 2 ^ k) := hn
  clear hn
  go_enter Tafg.func90, Tafg.ntmps90
  go_wp2
  go_loop [2, 3] (fun _ i => ∃ j : Nat, j ≤ k ∧ i = .int .i64 j) (fun _ i => 12 - (intOf i).toNat)
  case atStart => exact ⟨0, Nat.zero_le _, rfl⟩
  case round =>
    obtain ⟨j, hj, rfl⟩ := hrel
    have b1 : (j : Int) ≤ 11 := by omega
    go_wp2
    · have e := level_yes (j := j) HN.out (by omega) (by assumption)
      subst e
      go_ret
      exact ⟨rfl, rfl⟩
    · have e := level_not (j := j) HN.out (by omega) (by assumption)
      go_round
      case rel => exact ⟨j + 1, by omega, by go_num⟩
      case measure => simp [intOf]; omega
theorem fitsx_two (k h : Nat) (hk : 1 ≤ k) (hk2 : k ≤ 11) (hh : 2 * h = 2 ^ k) (w : World) :
    Calls Tafg.prog 89 #[.int .i64 ((2 * h : Nat) : Int), .int .i64 (h : Int)] w fun e w' => e = .returned (.bool true) ∧ w' = w := by
  have hl := levelx_pow k (2 * h) hk2 hh
  have hb : 2 ^ k ≤ 2 ^ 11 := Nat.pow_le_pow_right (by decide) hk2
  have b0 : h ≤ 1024 := by omega
  have b1 : (1 : Int) ≤ (k : Int) := by omega
  clear hh hb
  go_enter Tafg.func89, Tafg.ntmps89
  go_wp2_with (first | (go_at_call 90; refine same_mono (hl _) ?_))
  go_ret
  exact ⟨rfl, rfl⟩
theorem fitsx_one (w : World) :
    Calls Tafg.prog 89 #[.int .i64 1, .int .i64 0] w fun e w' => e = .returned (.bool true) ∧ w' = w := by
  go_enter Tafg.func89, Tafg.ntmps89
  go_wp2
  go_ret
  exact ⟨rfl, rfl⟩
theorem turn_any (x : Nat × Nat) (w : World) :
    Calls Tafg.prog 96 #[CV x] w fun e w' => e = .returned (CV (cturn x)) ∧ w' = w := by
  have hn := run_fneg
  obtain ⟨a, b⟩ := x
  unfold CV cturn
  dsimp only at *
  go_enter Tafg.func96, Tafg.ntmps96
  go_wp2
  go_ret
  exact ⟨rfl, rfl⟩

/-! ### pass4 -/
def Dn4 (q ss j i : Nat) : Prop := i < ss ∨ (i < ss + 4 * q ∧ i % q < j)
/-- The state within a pass: what is done is two levels up. -/
def St4 (k : Nat) (x : Nat → Cx) (L : Rat) (e : Int) (c : Rat) (t q n ss j : Nat) (g : Nat → Nat × Nat) : Prop :=
  ∀ i, i < n → (Dn4 q ss j i → At k x L (e + 8) (c + 28) (t + 2) (g i) i) ∧ (¬ Dn4 q ss j i → At k x L e c t (g i) i)
theorem St4.start {k : Nat} {x : Nat → Cx} {L : Rat} {e : Int} {c : Rat} {t q n : Nat} {g : Nat → Nat × Nat} (h : ∀ i, i < n → At k x L e c t (g i) i) : St4 k x L e c t q n 0 0 g := fun i hi =>
  ⟨fun hd => by unfold Dn4 at hd; omega, fun _ => h i hi⟩
theorem St4.next {k : Nat} {x : Nat → Cx} {L : Rat} {e : Int} {c : Rat} {t q n ss : Nat} {g : Nat → Nat × Nat} (hq : 0 < q) (h : St4 k x L e c t q n ss q g) : St4 k x L e c t q n (ss + 4 * q) 0 g := fun i hi => by
  have hm := Nat.mod_lt i hq
  obtain ⟨a, b⟩ := h i hi
  unfold Dn4 at *
  exact ⟨fun hd => a (by omega), fun hd => b (by omega)⟩
theorem St4.fin {k : Nat} {x : Nat → Cx} {L : Rat} {e : Int} {c : Rat} {t q n : Nat} {g : Nat → Nat × Nat} (h : St4 k x L e c t q n n 0 g) (i : Nat) (hi : i < n) : At k x L (e + 8) (c + 28) (t + 2) (g i) i :=
  (h i hi).1 (.inl hi)
theorem blk_mod {q s j r : Nat} (hj : j < q) : (4 * q * s + r * q + j) % q = j := by
  rw [show 4 * q * s + r * q + j = q * (4 * s + r) + j from by rw [Nat.mul_add, Nat.mul_comm r q, Nat.mul_comm 4 q, Nat.mul_assoc], Nat.mul_add_mod, Nat.mod_eq_of_lt hj]
theorem blk_pos {q s i : Nat} (h1 : 4 * q * s ≤ i) (h2 : i < 4 * q * s + 4 * q) : i = 4 * q * s + i % q ∨ i = 4 * q * s + q + i % q ∨ i = 4 * q * s + 2 * q + i % q ∨ i = 4 * q * s + 3 * q + i % q := by
  obtain ⟨d, rfl⟩ : ∃ d, i = 4 * q * s + d := ⟨i - 4 * q * s, by omega⟩
  have hd : d < 4 * q := by omega
  have e : (4 * q * s + d) % q = d % q := by rw [show 4 * q * s = q * (4 * s) from by rw [Nat.mul_comm 4 q, Nat.mul_assoc], Nat.mul_add_mod]
  rw [e]
  have hdv := Nat.mod_add_div d q
  have hq : d / q < 4 := Nat.div_lt_of_lt_mul (by rw [Nat.mul_comm]; exact hd)
  generalize d / q = r at *
  generalize d % q = m at *
  have : r = 0 ∨ r = 1 ∨ r = 2 ∨ r = 3 := by omega
  rcases this with h | h | h | h <;> subst h <;> omega
theorem St4.at {k : Nat} {x : Nat → Cx} {L : Rat} {e : Int} {c : Rat} {t q n s ss j : Nat} {g : Nat → Nat × Nat} (hss : ss = 4 * q * s) (hj : j < q) (hn : ss + 4 * q ≤ n) (h : St4 k x L e c t q n ss j g) :
    At k x L e c t (g (ss + j)) (ss + j) ∧ At k x L e c t (g (ss + q + j)) (ss + q + j) ∧ At k x L e c t (g (ss + 2 * q + j)) (ss + 2 * q + j) ∧ At k x L e c t (g (ss + 3 * q + j)) (ss + 3 * q + j) := by
  subst hss
  have m0 := blk_mod (s := s) (r := 0) hj
  have m1 := blk_mod (s := s) (r := 1) hj
  have m2 := blk_mod (s := s) (r := 2) hj
  have m3 := blk_mod (s := s) (r := 3) hj
  rw [Nat.zero_mul, Nat.add_zero] at m0
  rw [Nat.one_mul] at m1
  refine ⟨(h _ (by omega)).2 ?_, (h _ (by omega)).2 ?_, (h _ (by omega)).2 ?_, (h _ (by omega)).2 ?_⟩
  all_goals (unfold Dn4; omega)
theorem St4.step {k : Nat} {x : Nat → Cx} {L : Rat} {e : Int} {c : Rat} {t q n s ss j : Nat} {g : Nat → Nat × Nat} {v0 v1 v2 v3 : Nat × Nat} (hss : ss = 4 * q * s) (hj : j < q) (h : St4 k x L e c t q n ss j g)
    (h0 : At k x L (e + 8) (c + 28) (t + 2) v0 (ss + j)) (h1 : At k x L (e + 8) (c + 28) (t + 2) v1 (ss + q + j)) (h2 : At k x L (e + 8) (c + 28) (t + 2) v2 (ss + 2 * q + j)) (h3 : At k x L (e + 8) (c + 28) (t + 2) v3 (ss + 3 * q + j)) :
    St4 k x L e c t q n ss (j + 1) (upd (upd (upd (upd g (ss + j) v0) (ss + q + j) v1) (ss + 2 * q + j) v2) (ss + 3 * q + j) v3) := by
  subst hss
  have m0 := blk_mod (s := s) (r := 0) hj
  have m1 := blk_mod (s := s) (r := 1) hj
  have m2 := blk_mod (s := s) (r := 2) hj
  have m3 := blk_mod (s := s) (r := 3) hj
  rw [Nat.zero_mul, Nat.add_zero] at m0
  rw [Nat.one_mul] at m1
  intro i hi
  by_cases e3 : i = 4 * q * s + 3 * q + j
  · subst e3
    rw [upd_same]
    exact ⟨fun _ => h3, fun hd => absurd (show Dn4 q (4 * q * s) (j + 1) (4 * q * s + 3 * q + j) by unfold Dn4; omega) hd⟩
  · rw [upd_ne _ _ _ _ e3]
    by_cases e2 : i = 4 * q * s + 2 * q + j
    · subst e2
      rw [upd_same]
      exact ⟨fun _ => h2, fun hd => absurd (show Dn4 q (4 * q * s) (j + 1) (4 * q * s + 2 * q + j) by unfold Dn4; omega) hd⟩
    · rw [upd_ne _ _ _ _ e2]
      by_cases e1 : i = 4 * q * s + q + j
      · subst e1
        rw [upd_same]
        exact ⟨fun _ => h1, fun hd => absurd (show Dn4 q (4 * q * s) (j + 1) (4 * q * s + q + j) by unfold Dn4; omega) hd⟩
      · rw [upd_ne _ _ _ _ e1]
        by_cases e0 : i = 4 * q * s + j
        · subst e0
          rw [upd_same]
          exact ⟨fun _ => h0, fun hd => absurd (show Dn4 q (4 * q * s) (j + 1) (4 * q * s + j) by unfold Dn4; omega) hd⟩
        · rw [upd_ne _ _ _ _ e0]
          obtain ⟨a, b⟩ := h i hi
          have key : Dn4 q (4 * q * s) (j + 1) i ↔ Dn4 q (4 * q * s) j i := by
            unfold Dn4
            constructor
            · rintro (hd | ⟨hd1, hd2⟩)
              · exact .inl hd
              · by_cases hb : i < 4 * q * s
                · exact .inl hb
                · have := blk_pos (show 4 * q * s ≤ i by omega) hd1
                  refine .inr ⟨hd1, ?_⟩
                  by_cases he : i % q = j
                  · rw [he] at this; omega
                  · omega
            · rintro (hd | ⟨hd1, hd2⟩)
              · exact .inl hd
              · exact .inr ⟨hd1, by omega⟩
          rw [key]
          exact ⟨a, b⟩

/-- The table whole: entries and the circle's other half, with bounds. -/
structure TabOk (k h : Nat) : Prop where
  k1 : 1 ≤ k
  k2 : k ≤ 11
  hh : h = 2 ^ (k - 1)
theorem TabOk.bd {k h : Nat} (o : TabOk k h) (m : Nat) (hm : m < 2 * h) : Bd 1 (wF h (tabF k) m) := by
  unfold wF
  split
  · rename_i g
    exact tab_bd k (k - 1) m o.k1 o.k2 (by have := o.k1; omega) (by rw [← o.hh]; exact g)
  · have b : Bd 1 (tabF k (m - h)) := tab_bd k (k - 1) (m - h) o.k1 o.k2 (by have := o.k1; omega) (by rw [← o.hh]; omega)
    exact ⟨b.re.neg, b.im.neg⟩
theorem TabOk.near {k h : Nat} (o : TabOk k h) (m : Nat) (hm : m < 2 * h) : Len ((cv (wF h (tabF k) m)).sub ((zeK k).pow m)) (5 * EE) := by
  have nT : ∀ i, i < h → Nm (tabF k i) := fun i hi => (tab_bd k (k - 1) i o.k1 o.k2 (by have := o.k1; omega) (by rw [← o.hh]; exact hi)).nm
  have hr : ∀ i, i < h → NearRoot (cv (tabF k i)) ((zeK k).pow i) := fun i hi => tab_near k i o.k1 o.k2 (by rw [← o.hh]; exact hi)
  have hth := zeK_half k o.k1 o.k2
  rw [← o.hh] at hth
  refine (wF_near (zeK_unit k) nT hr hth m hm).mono ?_
  have : tH ≤ EE := by unfold tH EE; decide +kernel
  grind

set_option maxRecDepth 100000 in
set_option maxHeartbeats 4000000 in
theorem pass4_any (b n cap tb h tcap k t q st : Nat) (e : Int) (c L : Rat) (x : Nat → Cx) (g0 : Nat → Nat × Nat) (w : World) (ho : TabOk k h) (hn : n = 2 * h) (ht : t + 2 ≤ k) (hq : q = 2 ^ t) (hst : st = 2 ^ (k - (t + 2)))
    (hne : tb ≠ b) (hT : Own CV w tb h (tabF k)) (hX : Own CV w b n g0) (he0 : 0 ≤ e) (he1 : e ≤ 800) (hc : c + 28 ≤ 1000) (hA : ∀ i, i < n → At k x L e c t (g0 i) i) :
    Calls Tafg.prog 91 #[.slice (some ⟨b, 0, none⟩) n cap, .slice (some ⟨tb, 0, none⟩) h tcap, .int .i64 (q : Int)] w fun r w' =>
      r = .returned (.tuple #[]) ∧ (∃ g, Own CV w' b n g ∧ ∀ i, i < n → At k x L (e + 8) (c + 28) (t + 2) (g i) i) ∧ Frm [b] w w' ∧ w'.heap.size = w.heap.size := by
  have hq0 : 0 < q := by rw [hq]; exact Nat.two_pow_pos _
  have hs0 : 0 < st := by rw [hst]; exact Nat.two_pow_pos _
  have hnq : n = 4 * q * st := by
    rw [hn, ho.hh, hq, hst, ← Nat.pow_succ', show (4 : Nat) = 2 ^ 2 from rfl, ← Nat.pow_add, ← Nat.pow_add]; congr 1; omega
  have hh2 : h ≤ 1024 := by rw [ho.hh]; exact Nat.pow_le_pow_right (n := 2) (by decide) (show k - 1 ≤ 10 by have := ho.k2; omega)
  have hqb : q ≤ 512 := by
    have : q ≤ q * st := Nat.le_mul_of_pos_right _ hs0
    have h4 : 4 * (q * st) = n := by rw [hnq, Nat.mul_assoc]
    omega
  have hsb : st ≤ 512 := by
    have : st ≤ q * st := Nat.le_mul_of_pos_left _ hq0
    have h4 : 4 * (q * st) = n := by rw [hnq, Nat.mul_assoc]
    omega
  have d1 : ((4 : Int) * (q : Int) == 0) = false := by simp; omega
  have d2 : (n : Int).tdiv (4 * (q : Int)) = (st : Int) := by
    rw [Int.tdiv_eq_ediv_of_nonneg (by omega), hnq, show ((4 * q * st : Nat) : Int) = 4 * (q : Int) * (st : Int) from by simp, Int.mul_ediv_cancel_left _ (by omega)]
  have HN := hid hn
  have HNQ := hid hnq
  have HO := hid ho
  have HQ := hid hq
  have HST := hid hst
  have HX := hid hX
  have HTO := hid hT
  have HA := hid hA
  have HNE := hid hne
  have HHT := hid ht
  have HC := hid hc
  have htu := turn_any
  have hb : n ≤ 2048 := by omega
  clear hn hnq ho hq hst hX hT hA hne ht hc
  go_enter Tafg.func91, Tafg.ntmps91
  go_wp2
  clear d2 d1
  go_loopw [8, 9, 10, 11, 12, 13, 14, 15, 16, 17, 18] (fun s _ _ _ _ _ _ _ _ _ _ wr => ∃ s0 ss : Nat, s0 ≤ st ∧ s = .int .i64 ss ∧ ss = 4 * q * s0 ∧ (∃ g, Own CV wr b n g ∧ St4 k x L e c t q n ss 0 g) ∧ Frm [b] w wr ∧ wr.heap.size = w.heap.size) (fun s _ _ _ _ _ _ _ _ _ _ _ => n - (intOf s).toNat)
  case atStart => exact ⟨0, 0, Nat.zero_le _, rfl, by simp, ⟨g0, HX.out, St4.start HA.out⟩, Frm.refl _ _, rfl⟩
  case round =>
    obtain ⟨s0, ss, hs0', rfl, hss, ⟨g, hown, hst4⟩, hfr, hsz⟩ := hrel
    by_cases hlt : s0 < st
    · have hle : ss + 4 * q ≤ n := by
        rw [hss, HNQ.out]
        have := Nat.mul_le_mul_left (4 * q) (show s0 + 1 ≤ st from hlt)
        rw [Nat.mul_add, Nat.mul_one] at this
        exact this
      have hsn : (ss : Int) < (n : Int) := by omega
      have hsn' : ss < n := by omega
      have HSS := hid hss
      have HOWN := hid hown
      have HS4 := hid hst4
      have HFR := hid hfr
      have HSZ := hid hsz
      clear hss hown hst4 hfr hsz
      go_wp2
      go_loopw [9, 10, 11, 12, 13, 14, 15, 16, 17, 18] (fun j _ _ _ _ _ _ _ _ _ wi => ∃ jj : Nat, jj ≤ q ∧ j = .int .i64 jj ∧ (∃ g, Own CV wi b n g ∧ St4 k x L e c t q n ss jj g) ∧ Frm [b] w wi ∧ wi.heap.size = w.heap.size) (fun j _ _ _ _ _ _ _ _ _ _ => q - (intOf j).toNat)
      case atStart => exact ⟨0, Nat.zero_le _, rfl, ⟨g, HOWN.out, HS4.out⟩, HFR.out, HSZ.out⟩
      case round =>
        clear HOWN HS4 HFR HSZ
        obtain ⟨jj, hjj, rfl, ⟨g, hown, hst4⟩, hfr, hsz⟩ := hrel
        by_cases hjl : jj < q
        · obtain ⟨aA, aB, aC, aD⟩ := hst4.at HSS.out hjl hle
          obtain ⟨m, hm⟩ : ∃ m, m = jj * st := ⟨_, rfl⟩
          obtain ⟨mm2, hm2⟩ : ∃ m, m = 2 * jj * st := ⟨_, rfl⟩
          obtain ⟨mm3, hm3⟩ : ∃ m, m = 3 * jj * st := ⟨_, rfl⟩
          have m12 : mm2 = 2 * m := by rw [hm2, hm, Nat.mul_assoc]
          have m13 : mm3 = 3 * m := by rw [hm3, hm, Nat.mul_assoc]
          have hmq : 2 * m < h := by
            have h1 : jj * st < q * st := Nat.mul_lt_mul_of_pos_right hjl hs0
            have h2 : 4 * (q * st) = 2 * h := by rw [← Nat.mul_assoc, ← HNQ.out]; exact HN.out
            omega
          have x1 : (jj : Int) * (st : Int) = (m : Int) := by rw [hm]; simp
          have x2 : 2 * (jj : Int) * (st : Int) = (mm2 : Int) := by rw [hm2]; simp
          have x3 : 3 * (jj : Int) * (st : Int) = (mm3 : Int) := by rw [hm3]; simp
          have t1 : tabF k m = wF h (tabF k) m := by unfold wF; rw [if_pos (by omega)]
          have t2 : tabF k mm2 = wF h (tabF k) mm2 := by unfold wF; rw [if_pos (by omega)]
          have bT1 := HO.out.bd m (by omega)
          have bT2 := HO.out.bd mm2 (by omega)
          have bT3 := HO.out.bd mm3 (by omega)
          have rT1 : Len ((cv (wF h (tabF k) m)).sub ((zeK k).pow (jj * st))) (5 * EE) := by rw [← hm]; exact HO.out.near m (by omega)
          have rT2 : Len ((cv (wF h (tabF k) mm2)).sub ((zeK k).pow (2 * jj * st))) (5 * EE) := by rw [← hm2]; exact HO.out.near mm2 (by omega)
          have rT3 : Len ((cv (wF h (tabF k) mm3)).sub ((zeK k).pow (3 * jj * st))) (5 * EE) := by rw [← hm3]; exact HO.out.near mm3 (by omega)
          have hTi := HTO.out.frame hfr (by simpa using HNE.out)
          have cT1 := hTi.cell (i := m) (by omega)
          have cT2 := hTi.cell (i := mm2) (by omega)
          rw [t1] at cT1
          rw [t2] at cT2
          have HT1 := hid t1
          have hW := fun w' hw' => w_any tb h tcap mm3 (tabF k) w' hh2 (by omega) hw'
          generalize wF h (tabF k) m = T1 at *
          generalize wF h (tabF k) mm2 = T2 at *
          generalize wF h (tabF k) mm3 = T3 at *
          have e1 : ss + jj + q = ss + q + jj := by omega
          have e2 : ss + jj + 2 * q = ss + 2 * q + jj := by omega
          have e3 : ss + jj + 3 * q = ss + 3 * q + jj := by omega
          rw [← e1] at aB
          rw [← e2] at aC
          rw [← e3] at aD
          have c0 := hown.cell (i := ss + jj) (by omega)
          have c1 := hown.cell (i := ss + jj + q) (by omega)
          have c2 := hown.cell (i := ss + jj + 2 * q) (by omega)
          have c3 := hown.cell (i := ss + jj + 3 * q) (by omega)
          obtain ⟨A, hA'⟩ : ∃ v, v = g (ss + jj) := ⟨_, rfl⟩
          obtain ⟨B, hB'⟩ : ∃ v, v = g (ss + jj + q) := ⟨_, rfl⟩
          obtain ⟨C, hC'⟩ : ∃ v, v = g (ss + jj + 2 * q) := ⟨_, rfl⟩
          obtain ⟨D, hD'⟩ : ∃ v, v = g (ss + jj + 3 * q) := ⟨_, rfl⟩
          rw [← hA'] at c0 aA
          rw [← hB'] at c1 aB
          rw [← hC'] at c2 aC
          rw [← hD'] at c3 aD
          rw [e1] at aB
          rw [e2] at aC
          rw [e3] at aD
          obtain ⟨o0, o1, o2, o3⟩ := At.four HO.out.k2 HHT.out HQ.out HST.out hjl HSS.out he0 he1 HC.out aA aB aC aD bT1 bT2 bT3 rT1 rT2 rT3
          have bA := aA.bd
          have bB := aB.bd
          have bC := aC.bd
          have bD := aD.bd
          have HB' := hid hB'
          have HC' := hid hC'
          have HD' := hid hD'
          clear hA' hB' hC' hD' rT1 rT2 rT3 aA aB aC aD
          have mB := mul_any _ _ bB bT2 (by omega) (by omega)
          have mC := mul_any _ _ bC bT1 (by omega) (by omega)
          have mD := mul_any _ _ bD bT3 (by omega) (by omega)
          have bcc := (bB.mul bT2 (by omega) (by omega)).mono (show e + 1 + 3 ≤ e + 4 by omega)
          have bbb := (bC.mul bT1 (by omega) (by omega)).mono (show e + 1 + 3 ≤ e + 4 by omega)
          have bdd := (bD.mul bT3 (by omega) (by omega)).mono (show e + 1 + 3 ≤ e + 4 by omega)
          have bA' := bA.mono (show e ≤ e + 4 by omega)
          generalize cmul B T2 = cc at *
          generalize cmul C T1 = bb at *
          generalize cmul D T3 = dd at *
          have r1 := run_cadd bA' bcc
          have r2 := run_csub bA' bcc
          have r3 := run_cadd bbb bdd
          have r4 := run_csub bbb bdd
          have bu := bA'.add bcc (by omega) (by omega)
          have bv := bA'.sub bcc (by omega) (by omega)
          have by' := bbb.add bdd (by omega) (by omega)
          have bz := (bbb.sub bdd (by omega) (by omega)).turn
          have hturn := turn_any (csub bb dd)
          generalize cadd A cc = uu at *
          generalize csub A cc = vv at *
          generalize cadd bb dd = yy at *
          generalize cturn (csub bb dd) = zz at *
          generalize csub bb dd = zd at *
          have r5 := run_cadd bu by'
          have r6 := run_cadd bv bz
          have r7 := run_csub bu by'
          have r8 := run_csub bv bz
          generalize cadd uu yy = v0 at *
          generalize cadd vv zz = v1 at *
          generalize csub uu yy = v2 at *
          generalize csub vv zz = v3 at *
          have st' := hst4.step HSS.out hjl o0 o1 o2 o3
          rw [← e1, ← e2, ← e3] at st'
          have f0 := hown.free (i := ss + jj) (by omega)
          have f1 := hown.free (i := ss + jj + q) (by omega)
          have f2 := hown.free (i := ss + jj + 2 * q) (by omega)
          have f3 := hown.free (i := ss + jj + 3 * q) (by omega)
          have i1 : (0 : Int) ≤ (ss : Int) + (jj : Int) := by omega
          have i2 : (ss : Int) + (jj : Int) < (n : Int) := by omega
          have i3 : (0 : Int) ≤ (ss : Int) + (jj : Int) + (q : Int) := by omega
          have i4 : (ss : Int) + (jj : Int) + (q : Int) < (n : Int) := by omega
          have i5 : (0 : Int) ≤ (ss : Int) + (jj : Int) + 2 * (q : Int) := by omega
          have i6 : (ss : Int) + (jj : Int) + 2 * (q : Int) < (n : Int) := by omega
          have i7 : (0 : Int) ≤ (ss : Int) + (jj : Int) + 3 * (q : Int) := by omega
          have i8 : (ss : Int) + (jj : Int) + 3 * (q : Int) < (n : Int) := by omega
          have j1 : (0 : Int) ≤ (m : Int) := by omega
          have j2 : (m : Int) < (h : Int) := by omega
          have j3 : (0 : Int) ≤ (mm2 : Int) := by omega
          have j4 : (mm2 : Int) < (h : Int) := by omega
          have tn1 : ((ss : Int) + (jj : Int)).toNat = ss + jj := by omega
          have tn2 : ((ss : Int) + (jj : Int) + (q : Int)).toNat = ss + jj + q := by omega
          have tn3 : ((ss : Int) + (jj : Int) + 2 * (q : Int)).toNat = ss + jj + 2 * q := by omega
          have tn4 : ((ss : Int) + (jj : Int) + 3 * (q : Int)).toNat = ss + jj + 3 * q := by omega
          have wm1 : IntKind.i64.wrap (m : Int) = (m : Int) := wrap_small m (by omega)
          have wm2 : IntKind.i64.wrap (mm2 : Int) = (mm2 : Int) := wrap_small mm2 (by omega)
          have wm3 : IntKind.i64.wrap (mm3 : Int) = (mm3 : Int) := wrap_small mm3 (by omega)
          have wq2 : IntKind.i64.wrap (2 * (q : Int)) = 2 * (q : Int) := by rw [IntKind.wrap_i64]; omega
          have wq3 : IntKind.i64.wrap (3 * (q : Int)) = 3 * (q : Int) := by rw [IntKind.wrap_i64]; omega
          have wj2 : IntKind.i64.wrap (2 * (jj : Int)) = 2 * (jj : Int) := by rw [IntKind.wrap_i64]; omega
          have wj3 : IntKind.i64.wrap (3 * (jj : Int)) = 3 * (jj : Int) := by rw [IntKind.wrap_i64]; omega
          have wp2' : IntKind.i64.wrap ((ss : Int) + (jj : Int) + 2 * (q : Int)) = (ss : Int) + (jj : Int) + 2 * (q : Int) := by rw [IntKind.wrap_i64]; omega
          have wp3 : IntKind.i64.wrap ((ss : Int) + (jj : Int) + 3 * (q : Int)) = (ss : Int) + (jj : Int) + 3 * (q : Int) := by rw [IntKind.wrap_i64]; omega
          have HOW0 := hid hown
          have HST4 := hid st'
          have HFR := hid hfr
          have HSZ := hid hsz
          clear st' hfr hsz hown hst4 o0 o1 o2 o3 bA bB bC bD bcc bbb bdd bA' bu bv by' bz bT1 bT2 bT3 hm hm2 hm3 m12 m13 t1 t2 e1 e2 e3 htu
          go_wp2
          go_quiet ((go_at_call 70; exact Calls.quiet_of_same (mB _)))
          have hown : Own CV (wr.drewN nq) b n g := HOW0.out
          have hT1 : Own CV (wr.drewN nq) tb h (tabF k) := hTi
          have hfr : Frm [b] w (wr.drewN nq) := HFR.out.drewN nq
          have hsz : (wr.drewN nq).heap.size = w.heap.size := HSZ.out
          clear HOW0 hTi HFR HSZ c0 c1 c2 c3 f0 f1 f2 f3 cT1 cT2 mB
          generalize wr.drewN nq = W1 at *
          have c2 := hown.cell (i := ss + jj + 2 * q) (by omega)
          rw [← HC'.out] at c2
          have cT1 := hT1.cell (i := m) (by omega)
          rw [HT1.out] at cT1
          have HOW0 := hid hown
          have HFR := hid hfr
          have HSZ := hid hsz
          have HTT := hid hT1
          clear hown hfr hsz hT1
          go_wp2
          go_quiet ((go_at_call 70; exact Calls.quiet_of_same (mC _)))
          have hown : Own CV (W1.drewN nq) b n g := HOW0.out
          have hT1 : Own CV (W1.drewN nq) tb h (tabF k) := HTT.out
          have hfr : Frm [b] w (W1.drewN nq) := HFR.out.drewN nq
          have hsz : (W1.drewN nq).heap.size = w.heap.size := HSZ.out
          clear HOW0 HTT HFR HSZ c2 cT1 mC
          generalize W1.drewN nq = W2 at *
          have c3 := hown.cell (i := ss + jj + 3 * q) (by omega)
          rw [← HD'.out] at c3
          have HOW0 := hid hown
          have HFR := hid hfr
          have HSZ := hid hsz
          have HTT := hid hT1
          clear hown hfr hsz hT1
          go_wp2
          go_quiet (first | (go_at_call 62; exact Calls.quiet_of_same (hW _ (Own.drewN HTT.out _))) | (go_at_call 70; exact Calls.quiet_of_same (mD _)))
          have hown : Own CV (W2.drewN nq) b n g := HOW0.out
          have hfr : Frm [b] w (W2.drewN nq) := HFR.out.drewN nq
          have hsz : (W2.drewN nq).heap.size = w.heap.size := HSZ.out
          clear HOW0 HTT HFR HSZ c3 mD hW
          generalize W2.drewN nq = W3 at *
          have k0 := hown.cell (i := ss + jj) (by omega)
          have k1 := hown.cell (i := ss + jj + q) (by omega)
          have k2 := hown.cell (i := ss + jj + 2 * q) (by omega)
          have k3 := hown.cell (i := ss + jj + 3 * q) (by omega)
          have f0 := hown.free (i := ss + jj) (by omega)
          have f1 := hown.free (i := ss + jj + q) (by omega)
          have f2 := hown.free (i := ss + jj + 2 * q) (by omega)
          have f3 := hown.free (i := ss + jj + 3 * q) (by omega)
          have own4 := (((hown.setCell (i := ss + jj) (by omega) v0).setCell (i := ss + jj + q) (by omega) v1).setCell (i := ss + jj + 2 * q) (by omega) v2).setCell (i := ss + jj + 3 * q) (by omega) v3
          have HOW := hid own4
          have HFR := hid hfr
          have HSZ := hid hsz
          clear own4 hown hfr hsz
          go_wp2_with (first | (go_at_call 96; refine same_mono (hturn _) ?_))
          go_roundw
          case rel => exact ⟨jj + 1, by omega, by go_num, ⟨_, HOW.out, HST4.out⟩, (((HFR.out.setCell (.inl (by simp)) _).setCell (.inl (by simp)) _).setCell (.inl (by simp)) _).setCell (.inl (by simp)) _, by simpa using HSZ.out⟩
          case measure => simp [intOf]; omega
        · have e' : jj = q := by omega
          subst e'
          have HST4 := hid (hst4.next hq0)
          have HOW := hid hown
          have HFR := hid hfr
          have HSZ := hid hsz
          clear hown hfr hsz hst4
          go_wp2
          go_roundw
          case rel => exact ⟨s0 + 1, ss + 4 * jj, by omega, by go_num, by rw [HSS.out, Nat.mul_add, Nat.mul_one], ⟨g, HOW.out, HST4.out⟩, HFR.out, HSZ.out⟩
          case measure => simp [intOf]; omega
    · have e' : s0 = st := by omega
      subst e'
      have e2 : ss = n := by rw [hss, HNQ.out]
      subst e2
      have HST4 := hid hst4.fin
      have HOW := hid hown
      have HFR := hid hfr
      have HSZ := hid hsz
      clear hown hfr hsz hst4 hss
      go_wp2
      go_end0
      exact ⟨rfl, ⟨g, HOW.out, HST4.out⟩, HFR.out, HSZ.out⟩
end Go.Proofs.Ygctaf
