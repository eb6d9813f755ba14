/-
  WALK: fftx.InverseReal
-/
import Derived.Test.YgctafW30
namespace Go.Proofs.Ygctaf
open Go.RowKit Ieee
attribute [local go_sem] run_store_complex run_store_float CV_eq FV_eq

def riZ (m : Nat) (T g : Nat → Nat × Nat) (kk : Nat) : Nat × Nat := riF (g kk) (g (m - kk)) (wF m T kk)
/-- The points, as reals. -/
def flatF (z : Nat → Nat × Nat) (i : Nat) : Nat := if i % 2 = 0 then (z (i / 2)).1 else (z (i / 2)).2
def irO (k m : Nat) (T g : Nat → Nat × Nat) : Nat → Nat := flatF (invF (k - 1) (fun j => T (2 * j)) (riZ m T g))

theorem inverse_half (b n cap tb h tcap q : Nat) (e : Int) (T f : Nat → Nat × Nat) (w : World) (hq : q ≤ 11) (hn : n = 2 ^ q) (hh : h = n / 2) (hne : tb ≠ b) (hT : Own CV w tb h T) (hX : Own CV w b n f) (he0 : 0 ≤ e) (he1 : e ≤ 800) (bT : ∀ i, i < h → Bd 1 (T i)) (bF : ∀ i, i < n → Bd e (f i)) :
    Calls Tafg.prog 20 #[.slice (some ⟨b, 0, none⟩) n cap, .slice (some ⟨tb, 0, none⟩) h tcap] w fun r w' =>
      r = .returned (.bool true) ∧ Own CV w' b n (invF q T f) ∧ Frm [b] w w' := by
  rcases Nat.eq_zero_or_pos q with h0 | h0
  · subst h0
    have hn1 : n = 1 := hn
    have hh0 : h = 0 := by omega
    subst hh0
    exact inverse_one b cap tcap n e _ T f w hn1 hX (bF 0 (by omega))
  · have hn2 : n = 2 * h := by
      rw [hh, hn, show q = (q - 1) + 1 from by omega, Nat.pow_succ]; omega
    exact inverse_any b n cap tb h tcap q e T f w h0 hq hn hn2 hne hT hX he0 he1 bT bF

theorem flat_step {w : World} {b n j : Nat} {z : Nat → Nat × Nat} (hj : 2 * j + 1 < n) (h : Own FV w b n (fun i => if i < 2 * j then flatF z i else 0)) :
    Own FV ((w.setCell ⟨b, 2 * j, none⟩ (FV (z j).1)).setCell ⟨b, 2 * j + 1, none⟩ (FV (z j).2)) b n (fun i => if i < 2 * (j + 1) then flatF z i else 0) := by
  have e1 : flatF z (2 * j) = (z j).1 := by unfold flatF; rw [if_pos (by omega), show 2 * j / 2 = j from by omega]
  have e2 : flatF z (2 * j + 1) = (z j).2 := by unfold flatF; rw [if_neg (by omega), show (2 * j + 1) / 2 = j from by omega]
  have a := h.step (k := 2 * j) (by omega) rfl
  rw [e1] at a
  have b := a.step (k := 2 * j + 1) (by omega) rfl
  rw [e2] at b
  exact b

theorem ri_bd {e : Int} {P Q T : Nat × Nat} (hP : Bd e P) (hQ : Bd e Q) (hT : Bd 1 T) (h0 : 0 ≤ e) (h1 : e ≤ 800) : Bd (e + 8) (riF P Q T) := by
  have bs := hP.add hQ.conj h0 (by omega)
  have bd := hP.sub hQ.conj h0 (by omega)
  have bH : Bd (e + 2) (chalf (cadd P (cconj Q))) := ⟨(half_b1 bs.re (by omega) (by omega)).1, (half_b1 bs.im (by omega) (by omega)).1⟩
  have bD : Bd (e + 2) (chalf (csub P (cconj Q))) := ⟨(half_b1 bd.re (by omega) (by omega)).1, (half_b1 bd.im (by omega) (by omega)).1⟩
  have bM := ((bD.mul hT.conj (by omega) (by omega)).mono (show e + 2 + 1 + 3 ≤ e + 6 by omega)).turn
  exact ((bH.mono (show e + 2 ≤ e + 6 by omega)).sub bM (by omega) (by omega)).mono (by omega)

set_option maxRecDepth 100000 in
set_option maxHeartbeats 4000000 in
theorem inverseReal_any (b cap tb m tcap k n : Nat) (e : Int) (T g : Nat → Nat × Nat) (w : World) (hk1 : 1 ≤ k) (hk : k ≤ 11) (hm : m = 2 ^ (k - 1)) (hn : n = 2 * m) (he0 : 0 ≤ e) (he1 : e ≤ 700)
    (hT : Own CV w tb m T) (hX : Own CV w b (m + 1) g) (bT : ∀ i, i < m → Bd 1 (T i)) (bG : ∀ i, i < m + 1 → Bd e (g i)) :
    Calls Tafg.prog 49 #[.slice (some ⟨b, 0, none⟩) (m + 1) cap, .slice (some ⟨tb, 0, none⟩) m tcap] w fun r w' =>
      ∃ bo, r = .returned (.slice (some ⟨bo, 0, none⟩) n n) ∧ w.heap.size ≤ bo ∧ Own FV w' bo n (irO k m T g) ∧ Frm [] w w' := by
  have hm0 : 0 < m := by rw [hm]; exact Nat.two_pow_pos _
  have hmb : m ≤ 1024 := by rw [hm]; exact Nat.pow_le_pow_right (n := 2) (by decide) (show k - 1 ≤ 10 by omega)
  have hfit := fitsx_two k m hk1 hk (by rw [hm, ← Nat.pow_succ']; congr 1; omega)
  rw [← hn] at hfit
  have x2 : 2 * (m : Int) = (n : Int) := by omega
  have x0 : ((m : Int) == 0) = false := by simp; omega
  have hmk := make_c m (by omega)
  have hmk2 := make_f n (by omega)
  have bW : ∀ i, i < 2 * m → Bd 1 (wF m T i) := fun i hi => by
    unfold wF
    split
    · rename_i h; exact bT i h
    · have bb := bT (i - m) (by omega)
      exact ⟨bb.re.neg, bb.im.neg⟩
  have bR : ∀ i, i < m → Bd (e + 8) (riZ m T g i) := fun i hi => ri_bd (bG i (by omega)) (bG (m - i) (by omega)) (bW i (by omega)) he0 (by omega)
  have HM := hid hm
  have HN := hid hn
  have HT := hid hT
  have HX := hid hX
  have HBT := hid bT
  have HBG := hid bG
  have HBW := hid bW
  have HBR := hid bR
  have hxs := hX.1
  have hts := hT.1
  have hnb : n ≤ 2048 := by omega
  clear hm hn hT hX bT bG bW bR
  go_enter Tafg.func49, Tafg.ntmps49
  go_wp2_with (first | (go_at_call 89; refine same_mono (hfit _) ?_))
  clear hfit x0
  go_loopw [7, 8, 9, 10, 11] (fun i _ _ _ _ wr => ∃ j : Nat, j ≤ m ∧ i = .int .i64 j ∧ Own CV wr w.heap.size m (fun i => if i < j then riZ m T g i else (0, 0)) ∧ Frm [] w wr) (fun i _ _ _ _ _ => m - (intOf i).toNat)
  case atStart => exact ⟨0, Nat.zero_le _, rfl, by simpa using Own.madeC, (Frm.refl _ _).alloc _⟩
  case round =>
    obtain ⟨kk, hkk, rfl, hown, hfr⟩ := hrel
    by_cases hlt : kk < m
    · have hX1 := HX.out.frame hfr (by simp)
      have c1 := hX1.cell (i := kk) (by omega)
      have c2 := hX1.cell (i := m - kk) (by omega)
      have w1 : IntKind.i64.wrap ((m : Int) - (kk : Int)) = (m : Int) - (kk : Int) := by rw [IntKind.wrap_i64]; omega
      have t1 : ((m : Int) - (kk : Int)).toNat = m - kk := by omega
      have i1 : (0 : Int) ≤ (kk : Int) := by omega
      have i2 : (kk : Int) < (m : Int) + 1 := by omega
      have i3 : (0 : Int) ≤ (m : Int) - (kk : Int) := by omega
      have i4 : (m : Int) - (kk : Int) < (m : Int) + 1 := by omega
      have d1 : (kk : Int) < (m : Int) := by omega
      have bP := HBG.out kk (by omega)
      have bQ := HBG.out (m - kk) (by omega)
      have bTw := HBW.out kk (by omega)
      have hcj := conj_any (g (m - kk))
      have hfo : riZ m T g kk = riF (g kk) (g (m - kk)) (wF m T kk) := rfl
      have hwv := fun w' hw' => w_any tb m tcap kk T w' hmb (by omega) hw'
      have hcw := conj_any (wF m T kk)
      have bQc := bQ.conj
      have bTc := bTw.conj
      unfold riF at hfo
      generalize g kk = P at *
      generalize g (m - kk) = Q at *
      generalize wF m T kk = W at *
      have ra := run_cadd bP bQc
      have rs := run_csub bP bQc
      have bs := bP.add bQc (by omega) (by omega)
      have bd := bP.sub bQc (by omega) (by omega)
      generalize cconj Q = Qc at *
      generalize cconj W = Wc at *
      generalize cadd P Qc = S at *
      generalize csub P Qc = D at *
      have h1 := halved_any S bs
      have h2 := halved_any D bd
      obtain ⟨bh1, _⟩ := half_b1 bs.re (by omega) (by omega)
      obtain ⟨bh2, _⟩ := half_b1 bs.im (by omega) (by omega)
      obtain ⟨bh3, _⟩ := half_b1 bd.re (by omega) (by omega)
      obtain ⟨bh4, _⟩ := half_b1 bd.im (by omega) (by omega)
      have bHs : Bd (e + 2) (chalf S) := ⟨bh1, bh2⟩
      have bHd : Bd (e + 2) (chalf D) := ⟨bh3, bh4⟩
      generalize chalf S = EV at *
      generalize chalf D = HD at *
      have hmul := mul_any HD Wc bHd bTc (by omega) (by omega)
      have bM := ((bHd.mul bTc (by omega) (by omega)).mono (show e + 2 + 1 + 3 ≤ e + 6 by omega)).turn
      have h3 := turn_any (cmul HD Wc)
      have bE := bHs.mono (show e + 2 ≤ e + 6 by omega)
      generalize cturn (cmul HD Wc) = TM at *
      generalize cmul HD Wc = MO at *
      have rf := run_csub bE bM
      rw [← hfo] at rf
      obtain ⟨R, hR⟩ : ∃ R, R = riZ m T g kk := ⟨_, rfl⟩
      rw [← hR] at rf
      have HRR := hid hR
      have HOW := hid hown
      have HFR := hid hfr
      clear hown hfr hX1 bP bQ bTw bQc bTc bs bd bh1 bh2 bh3 bh4 bHs bHd bM bE hfo hR
      go_wp2
      go_quiet ((go_at_call 75; exact Calls.quiet_of_same (hcj _)))
      have hown : Own CV (wr.drewN nq) w.heap.size m (fun i => if i < kk then riZ m T g i else (0, 0)) := HOW.out
      have hfr : Frm [] w (wr.drewN nq) := HFR.out.drewN nq
      clear HOW HFR c1 c2 hcj
      generalize wr.drewN nq = W1 at *
      have c3 := hown.cell (i := kk) (by omega)
      have c4 := hown.free (i := kk) (by omega)
      have st := hown.step (f := riZ m T g) (k := kk) (by omega) rfl
      rw [← HRR.out] at st
      have HT2 := hid (HT.out.frame hfr (by simp))
      have HST := hid st
      have HFR := hid hfr
      clear st hown hfr
      go_wp2_with fail
      refine same_mono (h1 _) ?_
      go_wp2_with fail
      refine same_mono (h2 _) ?_
      go_wp2_with fail
      refine same_mono (hwv _ HT2.out) ?_
      go_wp2_with fail
      refine same_mono (hcw _) ?_
      go_wp2_with fail
      refine same_mono (hmul _) ?_
      go_wp2_with fail
      refine same_mono (h3 _) ?_
      go_wp2
      go_roundw
      case rel => exact ⟨kk + 1, by omega, by go_num, HST.out, HFR.out.setCell (.inr (Nat.le_refl _)) _⟩
      case measure => simp [intOf]; omega
    · have HOW := hid (hown.full (by omega))
      have HFR := hid hfr
      have hzs := hown.1
      clear hown hfr
      go_wp2_with fail
      refine (half_any tb m tcap T wr hmb (HT.out.frame HFR.out (by simp))).mono ?_
      rintro r w2 ⟨rfl, hH, f2⟩
      have HH := hid hH
      have HOW2 := hid (HOW.out.frame f2 (by simp))
      have HF2 := hid (HFR.out.trans f2)
      have hs2 := f2.size
      clear hH f2
      go_wp2_with fail
      refine (inverse_half w.heap.size m m wr.heap.size (m / 2) (m / 2) (k - 1) (e + 8) (fun j => T (2 * j)) (riZ m T g) w2 (by omega) HM.out rfl (by omega) HH.out HOW2.out (by omega) (by omega) (fun i hi => HBT.out _ (by omega)) HBR.out).mono ?_
      rintro r w3 ⟨rfl, hZ, f3⟩
      have HZ := hid hZ
      have HF3 := hid (HF2.out.seq (U := []) f3 (by simp) (by simp))
      have hs3 : w.heap.size < w3.heap.size := HZ.out.1
      clear hZ f3 HOW HOW2 HH HFR HF2
      generalize hzz : invF (k - 1) (fun j => T (2 * j)) (riZ m T g) = z at *
      go_wp2
      go_loopw [13] (fun i wr => ∃ j : Nat, j ≤ m ∧ i = .int .i64 j ∧ Own FV wr w3.heap.size n (fun i => if i < 2 * j then flatF z i else 0) ∧ Own CV wr w.heap.size m z ∧ Frm [] w wr) (fun i _ => m - (intOf i).toNat)
      case atStart => exact ⟨0, Nat.zero_le _, rfl, by simpa using Own.madeF, HZ.out.alloc _, HF3.out.alloc _⟩
      case round =>
        clear HZ HF3
        obtain ⟨j, hj, rfl, hown, hz, hfr⟩ := hrel
        by_cases hlt2 : j < m
        · have hnn := HN.out
          have c1 := hz.cell hlt2
          have c2 := hown.cell (i := 2 * j) (by omega)
          have c3 := hown.cell (i := 2 * j + 1) (by omega)
          have c4 := hown.free (i := 2 * j) (by omega)
          have c5 := hown.free (i := 2 * j + 1) (by omega)
          have t1 : (2 * (j : Int)).toNat = 2 * j := by omega
          have t2 : (2 * (j : Int) + 1).toNat = 2 * j + 1 := by omega
          have b1 : (0 : Int) ≤ 2 * (j : Int) := by omega
          have b2 : 2 * (j : Int) < (n : Int) := by omega
          have b3 : (0 : Int) ≤ 2 * (j : Int) + 1 := by omega
          have b4 : 2 * (j : Int) + 1 < (n : Int) := by omega
          have b5 : (0 : Int) ≤ (j : Int) := by omega
          have b6 : (j : Int) < (m : Int) := by omega
          have b7 : IntKind.i64.wrap (2 * (j : Int)) = 2 * (j : Int) := by rw [IntKind.wrap_i64]; omega
          have b8 : IntKind.i64.wrap (2 * (j : Int) + 1) = 2 * (j : Int) + 1 := by rw [IntKind.wrap_i64]; omega
          have HST := hid (flat_step (by omega) hown)
          have HFR := hid hfr
          have HZ := hid ((hz.setCell_other (c := w3.heap.size) (i := 2 * j) (by omega) (FV (z j).1)).setCell_other (c := w3.heap.size) (i := 2 * j + 1) (by omega) (FV (z j).2))
          clear hown hfr hz hnn
          generalize z j = Z at *
          go_wp2
          go_region
          go_wp2
          go_roundw
          case rel => exact ⟨j + 1, by omega, by go_num, HST.out.drew, HZ.out.drew, ((HFR.out.setCell (.inr (Nat.le_of_lt hs3)) _).setCell (.inr (Nat.le_of_lt hs3)) _).drew⟩
          case measure => simp [intOf]; omega
        · have HOW := hid (hown.full (by have := HN.out; omega))
          have HFR := hid hfr
          clear hown hfr hz
          go_wp2
          go_ret
          refine ⟨w3.heap.size, rfl, by omega, ?_, HFR.out⟩
          unfold irO
          rw [hzz]
          exact HOW.out
end Go.Proofs.Ygctaf
