/-
  WALK: fftx.joinSplit
-/
import Derived.Test.YgctafW26
namespace Go.Proofs.Ygctaf
open Go.RowKit
attribute [local go_sem] run_store_complex run_store_float CV_eq FV_eq

set_option maxRecDepth 100000 in
set_option maxHeartbeats 4000000 in
theorem joinSplit_any (b n cap tb h tcap k t q st j : Nat) (e : Int) (c L : Rat) (x : Nat → Cx) (g0 : Nat → Nat × Nat) (w : World) (ho : TabOk k h) (hn : n = 2 * h) (ht : t + 2 ≤ k) (hq : q = 2 ^ t) (hst : st = 2 ^ (k - (t + 2))) (hj : j < q)
    (hne : tb ≠ b) (hT : Own CV w tb h (tabF k)) (hX : Own CV w b n g0) (he0 : 0 ≤ e) (he1 : e ≤ 800) (hc : c + 20 ≤ 1000) (hA : StJ k x L e c t q n j 0 j g0) :
    Calls Tafg.prog 93 #[.slice (some ⟨b, 0, none⟩) n cap, .slice (some ⟨tb, 0, none⟩) h tcap, .int .i64 ((4 * q : Nat) : Int), .int .i64 (j : Int)] w fun r w' =>
      r = .returned (.tuple #[]) ∧ (∃ g, Own CV w' b n g ∧ StJ k x L e c t q n (j + 1) 0 (j + 1) g) ∧ Frm [b] w w' ∧ w'.heap.size = w.heap.size := by
  have hq0 : 0 < q := by rw [hq]; exact Nat.two_pow_pos _
  have hs0 : 0 < st := by rw [hst]; exact Nat.two_pow_pos _
  have hnq : n = 4 * q * st := by
    rw [hn, ho.hh, hq, hst, ← Nat.pow_succ', show (4 : Nat) = 2 ^ 2 from rfl, ← Nat.pow_add, ← Nat.pow_add]; congr 1; omega
  have hh2 : h ≤ 1024 := by rw [ho.hh]; exact Nat.pow_le_pow_right (n := 2) (by decide) (show k - 1 ≤ 10 by have := ho.k2; omega)
  have hqn : 4 * q ≤ n := by
    have : q ≤ q * st := Nat.le_mul_of_pos_right _ hs0
    have h4 : 4 * (q * st) = n := by rw [hnq, Nat.mul_assoc]
    omega
  obtain ⟨S, hS⟩ : ∃ S, S = 4 * q := ⟨_, rfl⟩
  have d1 : ((S : Int) == 0) = false := by simp; omega
  have d2 : (n : Int).tdiv (S : Int) = (st : Int) := by
    rw [Int.tdiv_eq_ediv_of_nonneg (by omega), hnq, hS, show ((4 * q * st : Nat) : Int) = ((4 * q : Nat) : Int) * (st : Int) from by simp, Int.mul_ediv_cancel_left _ (by omega)]
  have d3 : (S : Int).tdiv 4 = (q : Int) := by rw [Int.tdiv_eq_ediv_of_nonneg (by omega), hS]; omega
  have d3' : (S : Int) / 4 = (q : Int) := by rw [hS]; omega
  obtain ⟨m1, hm1⟩ : ∃ m, m = j * st := ⟨_, rfl⟩
  obtain ⟨m3, hm3⟩ : ∃ m, m = 3 * j * st := ⟨_, rfl⟩
  have m13 : m3 = 3 * m1 := by rw [hm3, hm1, Nat.mul_assoc]
  have hmq : 2 * m1 < h := by
    have h1 : j * st < q * st := Nat.mul_lt_mul_of_pos_right hj hs0
    have h2 : 4 * (q * st) = 2 * h := by rw [← Nat.mul_assoc, ← hnq]; exact hn
    omega
  have x1 : (j : Int) * (st : Int) = (m1 : Int) := by rw [hm1]; simp
  have x3 : 3 * (j : Int) * (st : Int) = (m3 : Int) := by rw [hm3]; simp
  have bT1 := ho.bd m1 (by omega)
  have bT3 := ho.bd m3 (by omega)
  have rT1 : Len ((cv (wF h (tabF k) m1)).sub ((zeK k).pow (j * st))) (5 * EE) := by rw [← hm1]; exact ho.near m1 (by omega)
  have rT3 : Len ((cv (wF h (tabF k) m3)).sub ((zeK k).pow (3 * j * st))) (5 * EE) := by rw [← hm3]; exact ho.near m3 (by omega)
  have hW := fun m hm w' hw' => w_any tb h tcap m (tabF k) w' hh2 hm hw'
  have hm1h : m1 < 2 * h := by omega
  have hm3h : m3 < 2 * h := by omega
  obtain ⟨T1, hT1⟩ : ∃ T, T = wF h (tabF k) m1 := ⟨_, rfl⟩
  obtain ⟨T3, hT3⟩ : ∃ T, T = wF h (tabF k) m3 := ⟨_, rfl⟩
  rw [← hT1] at bT1 rT1
  rw [← hT3] at bT3 rT3
  have HT1 := hid hT1
  have HT3 := hid hT3
  have wm1 : IntKind.i64.wrap (m1 : Int) = (m1 : Int) := wrap_small m1 (by omega)
  have wm3 : IntKind.i64.wrap (m3 : Int) = (m3 : Int) := wrap_small m3 (by omega)
  have wj3 : IntKind.i64.wrap (3 * (j : Int)) = 3 * (j : Int) := by rw [IntKind.wrap_i64]; omega
  have wst : IntKind.i64.wrap (st : Int) = (st : Int) := wrap_small st (by
    have : st ≤ q * st := Nat.le_mul_of_pos_left _ hq0
    have h4 : 4 * (q * st) = n := by rw [hnq, Nat.mul_assoc]
    omega)
  have HN := hid hn
  have HNQ := hid hnq
  have HO := hid ho
  have HQ := hid hq
  have HST := hid hst
  have HX := hid hX
  have HTO := hid hT
  have HA := hid hA
  have HNE := hid hne
  have HHT := hid ht
  have HC := hid hc
  have HS := hid hS
  have HB1 := hid bT1
  have HB3 := hid bT3
  have HR1 := hid rT1
  have HR3 := hid rT3
  have hb : n ≤ 2048 := by omega
  have hSb : S ≤ 2048 := by omega
  have hS0 : 0 < S := by omega
  rw [← hS]
  clear hn hnq ho hq hst hX hT hA hne ht hc hS hm1 hm3 bT1 bT3 rT1 rT3 hT1 hT3 m13
  go_enter Tafg.func93, Tafg.ntmps93
  go_wp2
  go_quiet ((go_at_call 62; exact Calls.quiet_of_same (hW _ (by assumption) _ (Own.drewN HTO.out _))))
  rw [← HT1.out, ← HT3.out]
  go_wp2
  simp only [CV_eq]
  have HX1 : Hid (Own CV (w.drewN nq) b n g0) := hid HX.out
  have HF1 : Hid (Frm [b] w (w.drewN nq)) := hid ((Frm.refl _ _).drewN nq)
  have HZ1 : Hid ((w.drewN nq).heap.size = w.heap.size) := hid rfl
  clear d1 d2 d3 d3' x1 x3 wm1 wm3 wj3 wst hW HX HT1 HT3
  generalize w.drewN nq = w1 at *
  go_loopw [12, 13, 14, 15, 16, 17, 18] (fun s gp _ _ _ _ _ wr => ∃ r G ss : Nat, s = .int .i64 (ss : Int) ∧ gp = .int .i64 (2 * (G : Int)) ∧ ss + S = G + j ∧ G = 4 ^ r * S ∧ S ≤ G ∧ G ≤ 8 * n ∧ (∃ g, Own CV wr b n g ∧ StJ k x L e c t q n j r ss g) ∧ Frm [b] w wr ∧ wr.heap.size = w.heap.size) (fun s _ _ _ _ _ _ _ => n - (intOf s).toNat)
  case atStart => exact ⟨0, S, j, rfl, rfl, by omega, by rw [Nat.pow_zero, Nat.one_mul], Nat.le_refl _, by have := HS.out; omega, ⟨g0, HX1.out, HA.out⟩, HF1.out, HZ1.out⟩
  case round =>
    clear HX1 HF1 HZ1 w1
    obtain ⟨r, G, ss, rfl, rfl, hss, hG, hSG, hGn, ⟨g, hown, hst⟩, hfr, hsz⟩ := hrel
    have HG := hid hG
    clear hG
    by_cases hlt : ss < n
    · have hsn : (ss : Int) < (n : Int) := by omega
      obtain ⟨m0, hm0, hmS⟩ := run_first HG.out
      have hms : ss = 4 * q * m0 + j := by rw [← HS.out, Nat.mul_comm S]; omega
      have hG2 : G < n + S := by omega
      have HOWN := hid hown
      have HSJ := hid hst
      have HFR := hid hfr
      have HSZ := hid hsz
      have HM0 := hid hm0
      have HMS := hid hms
      clear hown hst hfr hsz hm0 hmS hms
      go_wp2
      go_loopw [14, 15, 16, 17, 18] (fun i _ _ _ _ wi => ∃ d m ii : Nat, i = .int .i64 (ii : Int) ∧ ii = 4 * q * m + j ∧ ii ≤ n + 2 * G ∧ ss ≤ ii ∧ m + 1 = 4 ^ r * (2 * d + 1) ∧ (∃ g, Own CV wi b n g ∧ StJ k x L e c t q n j r ii g) ∧ Frm [b] w wi ∧ wi.heap.size = w.heap.size) (fun i _ _ _ _ _ => n - (intOf i).toNat)
      case atStart => exact ⟨0, m0, ss, rfl, HMS.out, by omega, Nat.le_refl _, HM0.out, ⟨g, HOWN.out, HSJ.out⟩, HFR.out, HSZ.out⟩
      case round =>
        clear HOWN HSJ HFR HSZ HM0 HMS m0
        obtain ⟨d, m, ii, rfl, hii, hib, hsi, hm, ⟨g, hown, hst⟩, hfr, hsz⟩ := hrel
        by_cases hil : ii < n
        · have d1 : (ii : Int) < (n : Int) := by omega
          have hPn : 4 * q * m + 4 * q ≤ n := by
            have h1 : 4 * q * m < 4 * q * st := by rw [← HNQ.out]; omega
            have h2 : m < st := Nat.lt_of_mul_lt_mul_left h1
            have h3 := Nat.mul_le_mul_left (4 * q) (show m + 1 ≤ st from h2)
            rw [Nat.mul_add, Nat.mul_one, ← HNQ.out] at h3
            exact h3
          subst hii
          obtain ⟨aA, aA', aC, aD⟩ := hst.at rfl hj hm hPn
          obtain ⟨o0, o2, o1, o3⟩ := At.split HO.out.k2 HHT.out HQ.out HST.out hj rfl he0 he1 HC.out aA aA' aC aD HB1.out HB3.out HR1.out HR3.out
          have hG' : G = 4 ^ r * (4 * q) := by rw [← HS.out]; exact HG.out
          have st' := hst.step rfl hj hG' hm o0 o1 o2 o3
          obtain ⟨m', hm', hmS'⟩ := run_step HG.out hm
          have hmS2 : 4 * q * m + j + 2 * G = 4 * q * m' + j := by rw [← HS.out, Nat.mul_comm S m, Nat.mul_comm S m']; omega
          have HMS2 := hid hmS2
          have HM' := hid hm'
          clear hmS' hmS2 hm' hm o0 o1 o2 o3 hG' hst
          have bA := aA.bd
          have bA' := aA'.bd
          have bC := aC.bd
          have bD := aD.bd
          clear aA aA' aC aD
          have p1 : 4 * q * m + q + j = 4 * q * m + j + q := by omega
          have p2' : 4 * q * m + 2 * q + j = 4 * q * m + j + 2 * q := by omega
          have p3 : 4 * q * m + 3 * q + j = 4 * q * m + j + 3 * q := by omega
          rw [p1] at bA' st'
          rw [p2'] at bC st'
          rw [p3] at bD st'
          have hin : 4 * q * m + j + 3 * q < n := by omega
          clear p1 p2' p3 hPn
          generalize 4 * q * m + j = ii at *
          have mC := mul_any _ _ bC HB1.out (by omega) (by omega)
          have mD := mul_any _ _ bD HB3.out (by omega) (by omega)
          have c2 := hown.cell (i := ii + 2 * q) (by omega)
          have c3 := hown.cell (i := ii + 3 * q) (by omega)
          have bcc := (bC.mul HB1.out (by omega) (by omega)).mono (show e + 1 + 3 ≤ e + 4 by omega)
          have bdd := (bD.mul HB3.out (by omega) (by omega)).mono (show e + 1 + 3 ≤ e + 4 by omega)
          obtain ⟨C, hC'⟩ : ∃ v, v = g (ii + 2 * q) := ⟨_, rfl⟩
          obtain ⟨D, hD'⟩ : ∃ v, v = g (ii + 3 * q) := ⟨_, rfl⟩
          obtain ⟨A, hA0⟩ : ∃ v, v = g ii := ⟨_, rfl⟩
          obtain ⟨A', hA1⟩ : ∃ v, v = g (ii + q) := ⟨_, rfl⟩
          rw [← hC'] at mC c2 bcc st'
          rw [← hD'] at mD c3 bdd st'
          rw [← hA0] at bA st'
          rw [← hA1] at bA' st'
          clear bC bD hC' hD'
          generalize cmul C T1 = cc at *
          generalize cmul D T3 = dd at *
          have r1 := run_cadd bcc bdd
          have r2 := run_csub bcc bdd
          have bs := bcc.add bdd (by omega) (by omega)
          have bz := (bcc.sub bdd (by omega) (by omega)).turn
          have hturn := turn_any (csub cc dd)
          generalize cadd cc dd = su at *
          generalize cturn (csub cc dd) = di at *
          generalize csub cc dd = zd at *
          have bA2 := bA.mono (show e ≤ e + 4 + 2 by omega)
          have bA3 := bA'.mono (show e ≤ e + 4 + 2 by omega)
          have r3 := run_cadd bA2 bs
          have r4 := run_csub bA2 bs
          have r5 := run_cadd bA3 bz
          have r6 := run_csub bA3 bz
          generalize cadd A su = v0 at *
          generalize csub A su = v2 at *
          generalize cadd A' di = v1 at *
          generalize csub A' di = v3 at *
          have i1 : (0 : Int) ≤ (ii : Int) := by omega
          have i2 : (ii : Int) < (n : Int) := by omega
          have i3 : (0 : Int) ≤ (ii : Int) + (q : Int) := by omega
          have i4 : (ii : Int) + (q : Int) < (n : Int) := by omega
          have i5 : (0 : Int) ≤ (ii : Int) + 2 * (q : Int) := by omega
          have i6 : (ii : Int) + 2 * (q : Int) < (n : Int) := by omega
          have i7 : (0 : Int) ≤ (ii : Int) + 3 * (q : Int) := by omega
          have i8 : (ii : Int) + 3 * (q : Int) < (n : Int) := by omega
          have tn2 : ((ii : Int) + (q : Int)).toNat = ii + q := by omega
          have tn3 : ((ii : Int) + 2 * (q : Int)).toNat = ii + 2 * q := by omega
          have tn4 : ((ii : Int) + 3 * (q : Int)).toNat = ii + 3 * q := by omega
          have wq2 : IntKind.i64.wrap (2 * (q : Int)) = 2 * (q : Int) := by rw [IntKind.wrap_i64]; omega
          have wq3 : IntKind.i64.wrap (3 * (q : Int)) = 3 * (q : Int) := by rw [IntKind.wrap_i64]; omega
          have wp1 : IntKind.i64.wrap ((ii : Int) + (q : Int)) = (ii : Int) + (q : Int) := by rw [IntKind.wrap_i64]; omega
          have wp2' : IntKind.i64.wrap ((ii : Int) + 2 * (q : Int)) = (ii : Int) + 2 * (q : Int) := by rw [IntKind.wrap_i64]; omega
          have wp3 : IntKind.i64.wrap ((ii : Int) + 3 * (q : Int)) = (ii : Int) + 3 * (q : Int) := by rw [IntKind.wrap_i64]; omega
          have HA0 := hid hA0
          have HA1 := hid hA1
          have HOW0 := hid hown
          have HST4 := hid st'
          have HFR := hid hfr
          have HSZ := hid hsz
          clear st' hfr hsz hown bA bA' bcc bdd bs bz bA2 bA3 hA0 hA1
          simp only [CV_eq] at mC mD
          go_wp2
          go_quiet (first | (go_at_call 70; with_reducible exact Calls.quiet_of_same (mC _)) | (go_at_call 70; with_reducible exact Calls.quiet_of_same (mD _)))
          have hown : Own CV (wr.drewN nq) b n g := HOW0.out
          have hfr : Frm [b] w (wr.drewN nq) := HFR.out.drewN nq
          have hsz : (wr.drewN nq).heap.size = w.heap.size := HSZ.out
          clear HOW0 HFR HSZ c2 c3 mC mD
          generalize wr.drewN nq = W1 at *
          have k0 := hown.cell (i := ii) (by omega)
          rw [← HA0.out] at k0
          have k2 := hown.cell (i := ii + 2 * q) (by omega)
          have f0 := hown.free (i := ii) (by omega)
          have f2 := hown.free (i := ii + 2 * q) (by omega)
          have own2 := (hown.setCell (i := ii) (by omega) v0).setCell (i := ii + 2 * q) (by omega) v2
          have HOW := hid own2
          have HFR := hid hfr
          have HSZ := hid hsz
          clear own2 hown hfr hsz
          go_wp2_with (first | (go_at_call 96; refine same_mono (hturn _) ?_))
          go_region
          have hown : Own CV (((W1.setCell ⟨b, ii, none⟩ (.complex .f64 v0.1 v0.2)).setCell ⟨b, ii + 2 * q, none⟩ (.complex .f64 v2.1 v2.2)).drew) b n (upd (upd g ii v0) (ii + 2 * q) v2) := HOW.out
          have hfr : Frm [b] w (((W1.setCell ⟨b, ii, none⟩ (.complex .f64 v0.1 v0.2)).setCell ⟨b, ii + 2 * q, none⟩ (.complex .f64 v2.1 v2.2)).drew) := ((HFR.out.setCell (.inl (by simp)) _).setCell (.inl (by simp)) _).drew
          have hsz : (((W1.setCell ⟨b, ii, none⟩ (.complex .f64 v0.1 v0.2)).setCell ⟨b, ii + 2 * q, none⟩ (.complex .f64 v2.1 v2.2)).drew).heap.size = w.heap.size := by simpa using HSZ.out
          clear HOW HFR HSZ k0 k2 f0 f2
          generalize (((W1.setCell ⟨b, ii, none⟩ (.complex .f64 v0.1 v0.2)).setCell ⟨b, ii + 2 * q, none⟩ (.complex .f64 v2.1 v2.2)).drew) = W2 at *
          have k1 := hown.cell (i := ii + q) (by omega)
          rw [upd_ne _ _ _ _ (by omega), upd_ne _ _ _ _ (by omega), ← HA1.out] at k1
          have k3 := hown.cell (i := ii + 3 * q) (by omega)
          have f1 := hown.free (i := ii + q) (by omega)
          have f3 := hown.free (i := ii + 3 * q) (by omega)
          have own4 := (hown.setCell (i := ii + q) (by omega) v1).setCell (i := ii + 3 * q) (by omega) v3
          have HOW := hid own4
          have HFR := hid hfr
          have HSZ := hid hsz
          clear own4 hown hfr hsz
          go_wp2
          go_region
          go_wp2
          go_roundw
          case rel => exact ⟨d + 1, m', ii + 2 * G, by go_num, HMS2.out, by omega, by omega, HM'.out, ⟨_, HOW.out.drew, HST4.out⟩, ((HFR.out.setCell (.inl (by simp)) _).setCell (.inl (by simp)) _).drew, by simpa using HSZ.out⟩
          case measure => simp [intOf]; omega
        · have d1 : ¬ ((ii : Int) < (n : Int)) := by omega
          have hu : ∃ u, n = 4 * q * u := ⟨st, HNQ.out⟩
          have hG' : G = 4 ^ r * (4 * q) := by rw [← HS.out]; exact HG.out
          have hst2 := hst.next hj hu hG' (by omega)
          rw [← HS.out] at hst2
          have HSTN := hid hst2
          have HOW := hid hown
          have HFR := hid hfr
          have HSZ := hid hsz
          have hG4 : 4 * G = 4 ^ (r + 1) * S := by rw [HG.out, Nat.pow_succ, Nat.mul_comm (4 ^ r) 4, Nat.mul_assoc]
          have HG4 := hid hG4
          have hS4 : S ≤ 4 * G := by omega
          have hn8 : 4 * G ≤ 8 * n := by have := HS.out; omega
          clear hst hst2 hown hfr hsz hG4 hm hii hu hG'
          go_wp2
          go_roundw
          case rel => exact ⟨r + 1, 4 * G, 4 * G - S + j, by go_num, by go_num, by omega, HG4.out, hS4, hn8, ⟨g, HOW.out, HSTN.out⟩, HFR.out, HSZ.out⟩
          case measure => simp [intOf]; omega
    · have d0 : ¬ ((ss : Int) < (n : Int)) := by omega
      have hu : ∃ u, n = 4 * q * u := ⟨st, HNQ.out⟩
      have hG' : G = 4 ^ r * (4 * q) := by rw [← HS.out]; exact HG.out
      have hsG : ss = G - 4 * q + j := by have := HS.out; omega
      have HSTN := hid ((hsG ▸ hst).more hj hu hG' (by omega))
      have HOW := hid hown
      have HFR := hid hfr
      have HSZ := hid hsz
      clear hst hown hfr hsz hsG hu hG'
      go_wp2
      go_end0
      exact ⟨rfl, ⟨g, HOW.out, HSTN.out⟩, HFR.out, HSZ.out⟩
end Go.Proofs.Ygctaf
