/-
  WALK: fftx.ForwardReal
-/
import Derived.Test.YgctafW29
import Derived.Test.YgctafW24
import Derived.Test.YgctafBackExact
namespace Go.Proofs.Ygctaf
open Go.RowKit Ieee
attribute [local go_sem] run_store_complex run_store_float CV_eq FV_eq

/-- The points of half as many. -/
def zF (f : Nat → Nat) : Nat → Nat × Nat := fun j => (f (2 * j), f (2 * j + 1))
/-- Their transform. -/
def zT (k : Nat) (T : Nat → Nat × Nat) (f : Nat → Nat) : Nat → Nat × Nat := fwdF (k - 1) (fun j => T (2 * j)) (zF f)
def frO (k m : Nat) (T : Nat → Nat × Nat) (f : Nat → Nat) (kk : Nat) : Nat × Nat := rfF (zT k T f (kk % m)) (zT k T f ((m - kk) % m)) (wF m T kk)

/-- fft.Forward over half the table (one point, too). -/
theorem forward_half (b n cap tb h tcap q : Nat) (e : Int) (T f : Nat → Nat × Nat) (w : World) (hq : q ≤ 11) (hn : n = 2 ^ q) (hh : h = n / 2) (hne : tb ≠ b) (hT : Own CV w tb h T) (hX : Own CV w b n f) (he0 : 0 ≤ e) (he1 : e ≤ 800) (bT : ∀ i, i < h → Bd 1 (T i)) (bF : ∀ i, i < n → Bd e (f i)) :
    Calls Tafg.prog 23 #[.slice (some ⟨b, 0, none⟩) n cap, .slice (some ⟨tb, 0, none⟩) h tcap] w fun r w' =>
      r = .returned (.bool true) ∧ Own CV w' b n (fwdF q T f) ∧ Frm [b] w w' ∧ w'.heap.size = w.heap.size := by
  rcases Nat.eq_zero_or_pos q with h0 | h0
  · subst h0
    have hn1 : n = 1 := hn
    have hh0 : h = 0 := by omega
    subst hh0
    exact forward_one' b cap tcap n _ T f w hn1 hX
  · have hn2 : n = 2 * h := by
      rw [hh, hn, show q = (q - 1) + 1 from by omega, Nat.pow_succ]; omega
    exact forward_any b n cap tb h tcap q e T f w h0 hq hn hn2 hne hT hX he0 he1 bT bF

set_option maxRecDepth 100000 in
set_option maxHeartbeats 4000000 in
theorem forwardReal_any (b n cap tb m tcap k : Nat) (e : Int) (T : Nat → Nat × Nat) (f : Nat → Nat) (w : World) (hk1 : 1 ≤ k) (hk : k ≤ 11) (hm : m = 2 ^ (k - 1)) (hn : n = 2 * m) (he0 : 0 ≤ e) (he1 : e ≤ 700)
    (hT : Own CV w tb m T) (hX : Own FV w b n f) (bT : ∀ i, i < m → Bd 1 (T i)) (bF : ∀ i, i < n → B1 e (f i)) :
    Calls Tafg.prog 48 #[.slice (some ⟨b, 0, none⟩) n cap, .slice (some ⟨tb, 0, none⟩) m tcap] w fun r w' =>
      ∃ bo, r = .returned (.slice (some ⟨bo, 0, none⟩) (m + 1) (m + 1)) ∧ w.heap.size ≤ bo ∧ Own CV w' bo (m + 1) (frO k m T f) ∧ Frm [] w w' := by
  have hm0 : 0 < m := by rw [hm]; exact Nat.two_pow_pos _
  have hmb : m ≤ 1024 := by rw [hm]; exact Nat.pow_le_pow_right (n := 2) (by decide) (show k - 1 ≤ 10 by omega)
  have hfit := fitsx_two k m hk1 hk (by rw [hm, ← Nat.pow_succ']; congr 1; omega)
  rw [← hn] at hfit
  have hn1 : ((n : Int) == 1) = false := by simp; omega
  have hmk := make_c m (by omega)
  have hmk2 := make_c (m + 1) (by omega)
  simp only [Int.natCast_add, Int.natCast_one] at hmk2
  have bZ : ∀ i, i < m → Bd e (zF f i) := fun i hi => ⟨bF _ (by omega), bF _ (by omega)⟩
  have bTT : ∀ i, i < m → Bd (e + 66) (zT k T f i) := by
    have := fwdF_bd (k := k - 1) (h := m / 2) (T := fun j => T (2 * j)) (f := zF f) (e := e) (by omega) he0 (by omega) (by
      rcases Nat.eq_zero_or_pos (k - 1) with h0 | h0
      · exact .inl h0
      · right; rw [← hm]
        have : m = 2 * 2 ^ (k - 2) := by rw [hm, ← Nat.pow_succ']; congr 1; omega
        omega) (fun i hi => bT _ (by omega)) (fun i hi => bZ i (by rw [hm]; exact hi))
    rw [← hm] at this
    exact this
  have bW : ∀ i, i < 2 * m → Bd 1 (wF m T i) := fun i hi => by
    unfold wF
    split
    · rename_i g; exact bT i g
    · have bb := bT (i - m) (by omega)
      exact ⟨bb.re.neg, bb.im.neg⟩
  have HM := hid hm
  have HN := hid hn
  have HT := hid hT
  have HX := hid hX
  have HBT := hid bT
  have HBF := hid bF
  have HBZ := hid bZ
  have HBTT := hid bTT
  have HBW := hid bW
  have hxs := hX.1
  have hts := hT.1
  have hnb : n ≤ 2048 := by omega
  clear hm hn hT hX bT bF bZ bTT bW
  go_enter Tafg.func48, Tafg.ntmps48
  go_wp2_with (first | (go_at_call 89; refine same_mono (hfit _) ?_))
  clear hfit hn1
  go_loopw [8] (fun i wr => ∃ j : Nat, j ≤ m ∧ i = .int .i64 j ∧ Own CV wr w.heap.size m (fun i => if i < j then zF f i else (0, 0)) ∧ Frm [] w wr) (fun i _ => m - (intOf i).toNat)
  case atStart => exact ⟨0, Nat.zero_le _, rfl, by simpa using Own.madeC, (Frm.refl _ _).alloc _⟩
  case round =>
    obtain ⟨j, hj, rfl, hown, hfr⟩ := hrel
    by_cases hlt : j < m
    · have hX1 := HX.out.frame hfr (by simp)
      have hnn := HN.out
      have c1 := hX1.cell (i := 2 * j) (by omega)
      have c2 := hX1.cell (i := 2 * j + 1) (by omega)
      have c3 := hown.cell hlt
      have c4 := hown.free hlt
      have t1 : (2 * (j : Int)).toNat = 2 * j := by omega
      have t2 : (2 * (j : Int) + 1).toNat = 2 * j + 1 := by omega
      have b1 : (0 : Int) ≤ 2 * (j : Int) := by omega
      have b2 : 2 * (j : Int) < (n : Int) := by omega
      have b3 : (0 : Int) ≤ 2 * (j : Int) + 1 := by omega
      have b4 : 2 * (j : Int) + 1 < (n : Int) := by omega
      have b5 : (0 : Int) ≤ (j : Int) := by omega
      have b6 : (j : Int) < (m : Int) := by omega
      have b7 : IntKind.i64.wrap (2 * (j : Int)) = 2 * (j : Int) := by rw [IntKind.wrap_i64]; omega
      have b8 : IntKind.i64.wrap (2 * (j : Int) + 1) = 2 * (j : Int) + 1 := by rw [IntKind.wrap_i64]; omega
      have st := hown.step (f := zF f) hlt rfl
      have HST := hid st
      have HFR := hid hfr
      clear st hown hfr hX1 hnn
      go_wp2
      go_region
      go_wp2
      go_roundw
      case rel => exact ⟨j + 1, hlt, by go_num, HST.out.drew, (HFR.out.setCell (.inr (Nat.le_refl _)) _).drew⟩
      case measure => simp [intOf]; omega
    · have HOW := hid (hown.full (by omega))
      have HFR := hid hfr
      have hzs := hown.1
      clear hown hfr
      go_wp2_with fail
      refine (half_any tb m tcap T wr hmb (HT.out.frame HFR.out (by simp))).mono ?_
      rintro r w2 ⟨rfl, hH, f2⟩
      have HH := hid hH
      have HOW2 := hid (HOW.out.frame f2 (by simp))
      have HF2 := hid (HFR.out.trans f2)
      have hs2 := f2.size
      clear hH f2
      go_wp2_with fail
      refine (forward_half w.heap.size m m wr.heap.size (m / 2) (m / 2) (k - 1) e (fun j => T (2 * j)) (zF f) w2 (by omega) HM.out rfl (by omega) HH.out HOW2.out he0 (by omega) (fun i hi => HBT.out _ (by omega)) HBZ.out).mono ?_
      rintro r w3 ⟨rfl, hZ, f3, s3⟩
      have hZ' : Own CV w3 w.heap.size m (zT k T f) := hZ
      have HZ := hid hZ'
      have HF3 := hid (HF2.out.seq (U := []) f3 (by simp) (by simp))
      have hs3 : w.heap.size < w3.heap.size := by have := HZ.out.1; omega
      clear hZ hZ' f3 HOW HOW2 HH HFR HF2 s3
      go_wp2
      go_loopw [10, 11, 12, 13, 14] (fun i _ _ _ _ wr => ∃ j : Nat, j ≤ m + 1 ∧ i = .int .i64 j ∧ Own CV wr w3.heap.size (m + 1) (fun i => if i < j then frO k m T f i else (0, 0)) ∧ Own CV wr w.heap.size m (zT k T f) ∧ Frm [] w wr) (fun i _ _ _ _ _ => m + 1 - (intOf i).toNat)
      case atStart => exact ⟨0, Nat.zero_le _, rfl, by simpa using Own.madeC, HZ.out.alloc _, HF3.out.alloc _⟩
      case round =>
        clear HZ HF3
        obtain ⟨kk, hkk, rfl, hown, hz, hfr⟩ := hrel
        by_cases hlt2 : kk ≤ m
        · obtain ⟨ia, hia⟩ : ∃ i, i = kk % m := ⟨_, rfl⟩
          obtain ⟨ib, hib⟩ : ∃ i, i = (m - kk) % m := ⟨_, rfl⟩
          have hial : ia < m := by rw [hia]; exact Nat.mod_lt _ hm0
          have hibl : ib < m := by rw [hib]; exact Nat.mod_lt _ hm0
          have x1 : (kk : Int).tmod (m : Int) = (ia : Int) := by rw [Int.tmod_eq_emod_of_nonneg (by omega), hia]; simp
          have x2 : ((m : Int) - (kk : Int)).tmod (m : Int) = (ib : Int) := by
            rw [Int.tmod_eq_emod_of_nonneg (by omega), hib, show (m : Int) - (kk : Int) = ((m - kk : Nat) : Int) from by omega]; simp
          have x3 : ((m : Int) == 0) = false := by simp; omega
          have w1 : IntKind.i64.wrap ((m : Int) - (kk : Int)) = (m : Int) - (kk : Int) := by rw [IntKind.wrap_i64]; omega
          have w4 : IntKind.i64.wrap (ia : Int) = (ia : Int) := wrap_small ia (by omega)
          have w5 : IntKind.i64.wrap (ib : Int) = (ib : Int) := wrap_small ib (by omega)
          have c1 := hz.cell hial
          have c2 := hz.cell hibl
          have i1 : (0 : Int) ≤ (ia : Int) := by omega
          have i2 : (ia : Int) < (m : Int) := by omega
          have i3 : (0 : Int) ≤ (ib : Int) := by omega
          have i4 : (ib : Int) < (m : Int) := by omega
          have bP := HBTT.out ia hial
          have bQ := HBTT.out ib hibl
          have bTw := HBW.out kk (by omega)
          have hcj := conj_any (zT k T f ib)
          have hfo : frO k m T f kk = rfF (zT k T f ia) (zT k T f ib) (wF m T kk) := by unfold frO; rw [← hia, ← hib]
          have hwv := fun w' hw' => w_any tb m tcap kk T w' hmb (by omega) hw'
          have bQc := bQ.conj
          generalize zT k T f ia = P at *
          generalize zT k T f ib = Q at *
          generalize wF m T kk = W at *
          have d1 : (kk : Int) ≤ (m : Int) := by omega
          have ra := run_cadd bP bQc
          have rs := run_csub bP bQc
          have bs := bP.add bQc (by omega) (by omega)
          have bd := bP.sub bQc (by omega) (by omega)
          unfold rfF at hfo
          generalize cconj Q = Qc at *
          generalize cadd P Qc = S at *
          generalize csub P Qc = D at *
          have h1 := halved_any S bs
          have h2 := halved_any D bd
          obtain ⟨bh1, _⟩ := half_b1 bs.re (by omega) (by omega)
          obtain ⟨bh2, _⟩ := half_b1 bs.im (by omega) (by omega)
          obtain ⟨bh3, _⟩ := half_b1 bd.re (by omega) (by omega)
          obtain ⟨bh4, _⟩ := half_b1 bd.im (by omega) (by omega)
          have bHs : Bd (e + 66 + 2) (chalf S) := ⟨bh1, bh2⟩
          have bHd : Bd (e + 66 + 2) (cturn (chalf D)) := Bd.turn (z := chalf D) ⟨bh3, bh4⟩
          have h3 := turn_any (chalf D)
          generalize chalf S = EV at *
          generalize cturn (chalf D) = OD at *
          generalize chalf D = HD at *
          have hmul := mul_any OD W bHd bTw (by omega) (by omega)
          have bM := (bHd.mul bTw (by omega) (by omega)).mono (show e + 66 + 2 + 1 + 3 ≤ e + 66 + 6 by omega)
          have bE := bHs.mono (show e + 66 + 2 ≤ e + 66 + 6 by omega)
          generalize cmul OD W = MO at *
          have rf := run_cadd bE bM
          rw [← hfo] at rf
          have HOW := hid hown
          have HFR := hid hfr
          have HZ := hid hz
          clear hown hfr hz bP bQ bTw bQc bs bd bh1 bh2 bh3 bh4 bHs bHd bM bE hia hib hfo
          obtain ⟨R, hR⟩ : ∃ R, R = frO k m T f kk := ⟨_, rfl⟩
          rw [← hR] at rf
          have HRR := hid hR
          clear hR
          go_wp2
          go_quiet ((go_at_call 75; exact Calls.quiet_of_same (hcj _)))
          have hown : Own CV (wr.drewN nq) w3.heap.size (m + 1) (fun i => if i < kk then frO k m T f i else (0, 0)) := HOW.out
          have hfr : Frm [] w (wr.drewN nq) := HFR.out.drewN nq
          have hz : Own CV (wr.drewN nq) w.heap.size m (zT k T f) := HZ.out
          clear HOW HFR HZ c1 c2 hcj x1 x2 x3
          generalize wr.drewN nq = W1 at *
          have c3 := hown.cell (i := kk) (by omega)
          have c4 := hown.free (i := kk) (by omega)
          have st := hown.step (f := frO k m T f) (k := kk) (by omega) rfl
          rw [← HRR.out] at st
          have HT2 := hid (HT.out.frame hfr (by simp))
          have HST := hid st
          have HFR := hid hfr
          have HZ := hid (hz.setCell_other (c := w3.heap.size) (i := kk) (by omega) (CV R))
          clear st hown hfr hz
          go_wp2_with fail
          refine same_mono (h1 _) ?_
          go_wp2_with fail
          refine same_mono (h2 _) ?_
          go_wp2_with fail
          refine same_mono (h3 _) ?_
          go_wp2_with fail
          refine same_mono (hwv _ HT2.out) ?_
          go_wp2_with fail
          refine same_mono (hmul _) ?_
          go_wp2
          go_roundw
          case rel => exact ⟨kk + 1, by omega, by go_num, HST.out, HZ.out, HFR.out.setCell (.inr (Nat.le_of_lt hs3)) _⟩
          case measure => simp [intOf]; omega
        · have d1 : ¬ ((kk : Int) ≤ (m : Int)) := by omega
          have HOW := hid (hown.full (by omega))
          have HFR := hid hfr
          clear hown hfr hz
          go_wp2
          go_ret
          exact ⟨w3.heap.size, rfl, by omega, HOW.out, HFR.out⟩
end Go.Proofs.Ygctaf
