/-
  WALKS: fftx.refine, fftx.onCircle.
-/
import Derived.Test.YgctafW32
namespace Go.Proofs.Ygctaf
open Go.RowKit Ieee
attribute [local go_sem] CV_eq FV_eq

theorem PowOk.pw_bd {z : Nat × Nat} {n : Nat} (h : PowOk z) (hn : n ≤ 2048) : Bd 1 (powF z n) := by
  obtain ⟨hb, M, hZ, hM, hbig⟩ := h
  exact (pow_err hb hZ hM hbig hn).1

set_option maxHeartbeats 1000000 in
theorem refine_any (z : Nat × Nat) (n : Nat) (h : RefOk z n) (h0 : 0 < n) (hn : n ≤ 2048) (w : World) :
    Calls Tafg.prog 98 #[CV z, .int .i64 (n : Int)] w fun r w' => r = .returned (CV (refF z n)) ∧ w' = w := by
  have c1 := power_any z n h.pw hn
  have bp := h.pw.pw_bd hn
  have hfi := floatOfInt_eq (n : Int)
  obtain ⟨fb, fv⟩ := fintN_val n hn
  have hne : V (fint (n : Int)) ≠ 0 := by rw [fv]; exact Rat.ne_of_gt (Rat.natCast_pos.2 h0)
  have r1 := run_fdiv bp.im.num fb.num hne
  have r2 := run_fneg (fdiv (powF z n).2 (fint (n : Int)))
  have bw : Bd 1 (4607182418800017408, trnG z n) := ⟨oneC_bd.re, h.bg⟩
  have c2 := mul_any z (4607182418800017408, trnG z n) h.pw.bd bw (by decide) (by decide)
  have bt : Bd 5 (trnF z n) := h.pw.bd.mul bw (by decide) (by decide)
  have et : cmul z (4607182418800017408, trnG z n) = trnF z n := rfl
  have er : refF z n = scaF (trnF z n) (menF (trnF z n)) := rfl
  rw [et] at c2
  rw [er]
  have eg : trnG z n = fneg (fdiv (powF z n).2 (fint (n : Int))) := rfl
  rw [eg] at c2
  generalize trnF z n = t at *
  generalize powF z n = p at *
  have m1 := bt.re.mul bt.re (by decide) (by decide)
  have m2 := bt.im.mul bt.im (by decide) (by decide)
  have ms := m1.add m2 (by decide) (by decide)
  have r3 := run_fmul bt.re.num bt.re.num
  have r4 := run_fmul bt.im.num bt.im.num
  have r5 := run_fadd m1.num m2.num
  have r6 := run_fdiv ms.num two_val.1 twoF_ne
  obtain ⟨mh, _⟩ := half_b1 ms (by decide) (by decide)
  have r7 := run_fsub ohalf_val.1 mh.num
  have b3 : B1 20 4609434218613702656 := ⟨ohalf_val.1, by decide, by rw [ohalf_val.2]; decide +kernel⟩
  have mm := b3.sub (mh.mono (show _ ≤ (20 : Int) by decide)) (by decide) (by decide)
  have r8 := run_fmul bt.re.num mm.num
  have r9 := run_fmul bt.im.num mm.num
  obtain ⟨a, b⟩ := t
  unfold scaF menF sizF
  dsimp only at *
  clear mm b3 mh ms m1 m2 bt bw et er eg fv hne fb bp h
  go_enter Tafg.func98, Tafg.ntmps98
  go_wp2_with fail
  refine same_mono (c1 _) ?_
  go_wp2_with fail
  refine same_mono (c2 _) ?_
  go_wp2_with fail
  go_ret
  exact ⟨rfl, rfl⟩

/-- One round of onCircle. -/
theorem circ_step (m b : Nat) : tabL 11 (b + 1) (m % 2 ^ (b + 1)) = if m / 2 ^ b % 2 = 1 then cmul (tabL 11 b (m % 2 ^ b)) (baseF (11 - b)) else tabL 11 b (m % 2 ^ b) := by
  have e : m % 2 ^ (b + 1) = m % 2 ^ b + 2 ^ b * (m / 2 ^ b % 2) := by
    rw [Nat.pow_succ, Nat.mod_mul]
  have hl : m % 2 ^ b < 2 ^ b := Nat.mod_lt _ (Nat.two_pow_pos b)
  split
  · rename_i g
    rw [e, g, Nat.mul_one, Nat.add_comm (m % 2 ^ b), tabL_high]
  · rename_i g
    have g0 : m / 2 ^ b % 2 = 0 := by omega
    rw [e, g0, Nat.mul_zero, Nat.add_zero (m % 2 ^ b), tabL_low _ _ _ hl]
theorem shr_bit (m b : Nat) (h : m < 2048) : (bits .and .i64 ((m : Int) / 2 ^ b) 1 != 0) = decide (m / 2 ^ b % 2 = 1) := by
  have e : (m : Int) / 2 ^ b = ((m / 2 ^ b : Nat) : Int) := by
    rw [Int.natCast_ediv, Int.natCast_pow]; rfl
  rw [e]
  exact odd_bit _ (Nat.le_trans (Nat.div_le_self _ _) (by omega))

set_option maxHeartbeats 1000000 in
theorem onCircle_any (m : Nat) (hm : m < 2048) (w : World) :
    Calls Tafg.prog 97 #[.int .i64 (m : Int)] w fun r w' => r = .returned (CV (circF m)) ∧ w' = w := by
  go_enter Tafg.func97, Tafg.ntmps97
  go_wp2
  go_loop [3, 4] (fun z b => ∃ bb : Nat, bb ≤ 10 ∧ z = CV (tabL 11 bb (m % 2 ^ bb)) ∧ b = .int .u8 (bb : Int)) (fun _ b => 11 - (intOf b).toNat)
  case atStart => exact ⟨0, by decide, rfl, rfl⟩
  case round =>
    obtain ⟨b, hb, rfl, rfl⟩ := hrel
    have ob := shr_bit m b hm
    have st := hid (circ_step m b)
    have bd := tab_bd 11 b (m % 2 ^ b) (by decide) (by decide) (by omega) (Nat.mod_lt _ (Nat.two_pow_pos b))
    have last := hid (show b = 10 → tabL 11 b (m % 2 ^ b) = tabF 11 (m % 1024) from fun h => by subst h; rfl)
    generalize tabL 11 b (m % 2 ^ b) = x at *
    obtain ⟨blk, hblk⟩ : ∃ blk, blk = 2 ^ b := ⟨_, rfl⟩
    have e1 : wrap64 ((2 : Int) ^ b) = (blk : Int) := by rw [wrap_pow (by omega), hblk]
    have OB := hid ob
    clear ob
    by_cases g : b = 10
    · have k1 : blk = 1024 := by rw [hblk, g]
      have last' := last.out g
      subst k1
      have r1 := run_fneg x.1
      have r2 := run_fneg x.2
      by_cases hl : m < 1024
      · have e : circF m = x := by
          unfold circF wF; rw [if_pos hl, last', Nat.mod_eq_of_lt hl]
        have HE := hid e
        have hl' : decide ((1024 : Int) ≤ (m : Int)) = false := by simp; omega
        clear hblk last' e bd
        go_wp2
        go_ret
        exact ⟨by rw [HE.out]; rfl, rfl⟩
      · have e : circF m = (fneg x.1, fneg x.2) := by
          unfold circF wF
          rw [if_neg hl, last', show m % 1024 = m - 1024 from by omega]
        have HE := hid e
        have hl' : (1024 : Int) ≤ (m : Int) := by omega
        clear hblk last' e bd
        go_wp2
        go_ret
        exact ⟨by rw [HE.out]; rfl, rfl⟩
    · have k1 : (blk : Int) < 1024 := by
        have : blk ≤ 2 ^ 9 := by rw [hblk]; exact Nat.pow_le_pow_right (by decide) (by omega)
        omega
      have hblk2 := hid hblk
      clear hblk
      obtain ⟨t, ht⟩ : ∃ t : Nat, t = 11 - b := ⟨_, rfl⟩
      have e2 : (11 : Int) - (b : Int) = (t : Int) := by omega
      have hbase := base_any t (by omega)
      have hmul := mul_any x (baseF t) bd (base_bd t) (by decide) (by decide)
      have HT := hid ht
      clear ht bd last
      have ob := OB.out
      by_cases ho : m / 2 ^ b % 2 = 1
      · have st1 := st.out
        rw [if_pos ho, ← HT.out] at st1
        rw [decide_eq_true ho] at ob
        have HS := hid st1
        clear ho OB st st1 hblk2
        go_wp2_with (first | (go_at_call 69; refine same_mono (hbase _) ?_) | (go_at_call 70; refine same_mono (hmul _) ?_))
        go_round
        case rel => exact ⟨b + 1, by omega, (congrArg CV HS.out).symm, by go_num⟩
        case measure => simp [intOf]; omega
      · have st1 := st.out
        rw [if_neg ho] at st1
        rw [decide_eq_false ho] at ob
        have HS := hid st1
        clear ho OB st st1 hblk2
        go_wp2
        go_round
        case rel => exact ⟨b + 1, by omega, (congrArg CV HS.out).symm, by go_num⟩
        case measure => simp [intOf]; omega
end Go.Proofs.Ygctaf
