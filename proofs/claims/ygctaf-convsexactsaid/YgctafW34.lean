/-
  WALKS: fftx.Root.
-/
import Derived.Test.YgctafW33
namespace Go.Proofs.Ygctaf
open Go.RowKit Ieee
attribute [local go_sem] CV_eq FV_eq

theorem tmod_facts (jj : Int) (n : Nat) (h0 : 0 < n) : ∃ (r : Int) (j : Nat), jj.tmod (n : Int) = r ∧ -(n : Int) < r ∧ r < (n : Int) ∧ (r + (n : Int)).tmod (n : Int) = (j : Int) ∧ (j : Int) = jj % (n : Int) ∧ j < n := by
  have hn : (n : Int) ≠ 0 := by omega
  have b1 := Int.tmod_lt_of_pos jj (show (0 : Int) < (n : Int) by omega)
  have b2 : -(n : Int) < jj.tmod (n : Int) := by
    have := Int.tmod_lt_of_pos (-jj) (show (0 : Int) < (n : Int) by omega)
    rw [Int.neg_tmod] at this
    omega
  have m0 := Int.emod_nonneg jj hn
  have m1 := Int.emod_lt_of_pos jj (show (0 : Int) < (n : Int) by omega)
  refine ⟨jj.tmod n, (jj % n).toNat, rfl, b2, b1, ?_, by omega, by omega⟩
  rw [Int.tmod_eq_emod_of_nonneg (by omega), Int.add_emod_right, Int.toNat_of_nonneg m0]
  have := Int.tmod_def jj (n : Int)
  rw [this, Int.sub_mul_emod_self_left]

set_option maxHeartbeats 1000000 in
theorem root_zero (n jj : Int) (h : n < 1 ∨ 2048 < n) (w : World) :
    Calls Tafg.prog 57 #[.int .i64 n, .int .i64 jj] w fun r w' => r = .returned (CV (0, 0)) ∧ w' = w := by
  rcases h with h | h
  · go_enter Tafg.func57, Tafg.ntmps57
    go_wp2
    go_ret
    exact ⟨rfl, rfl⟩
  · have h2 : decide (n < 1) = false := by simp; omega
    go_enter Tafg.func57, Tafg.ntmps57
    go_wp2
    go_ret
    exact ⟨rfl, rfl⟩

set_option maxHeartbeats 1000000 in
theorem root_any (n : Nat) (jj : Int) (h0 : 0 < n) (hn : n ≤ 2048) (w : World) :
    Calls Tafg.prog 57 #[.int .i64 (n : Int), .int .i64 jj] w fun r w' => r = .returned (CV (rootF n (jj % (n : Int)).toNat)) ∧ w' = w := by
  obtain ⟨r, j, t1, t2, t3, t4, t5, hj⟩ := tmod_facts jj n h0
  have ej : (jj % (n : Int)).toNat = j := by omega
  rw [ej]
  clear ej t5
  obtain ⟨a, ha⟩ : ∃ a, a = j * 2048 / n := ⟨_, rfl⟩
  obtain ⟨q, hq⟩ : ∃ q, q = j * 2048 % n := ⟨_, rfl⟩
  have hat : a < 2048 := by rw [ha, Nat.div_lt_iff_lt_mul h0, Nat.mul_comm]; exact Nat.mul_lt_mul_of_pos_left hj (by decide)
  obtain ⟨p, hp⟩ : ∃ p, p = a * n := ⟨_, rfl⟩
  have dm : p + q = j * 2048 := by
    have := Nat.mod_add_div (j * 2048) n
    rw [← ha, ← hq, Nat.mul_comm n a, ← hp] at this
    omega
  have e1 : ((j : Int) * 2048).tdiv (n : Int) = (a : Int) := by
    rw [Int.tdiv_eq_ediv_of_nonneg (by omega), ha, Int.natCast_ediv]; rfl
  have e2 : (a : Int) * (n : Int) = (p : Int) := by rw [hp, Int.natCast_mul]
  have e3 : (j : Int) * 2048 - (p : Int) = (q : Int) := by omega
  obtain ⟨x, hx⟩ : ∃ x, x = (a + 1) % 2048 := ⟨_, rfl⟩
  have e4 : ((a : Int) + 1).tmod 2048 = (x : Int) := by
    rw [Int.tmod_eq_emod_of_nonneg (by omega)]; omega
  have hql : q < n := by rw [hq]; exact Nat.mod_lt _ h0
  have hx2 : x < 2048 := by omega
  have cA := onCircle_any a hat
  have cX := onCircle_any x hx2
  have bA := circ_bd hat
  have bX := circ_bd hx2
  have ok := fun i hi => rootS_ok (n := n) (j := j) h0 hn hj i hi
  have er := rootF_eq n j
  have es : rootS n j = if 3 * n ≤ 4 * q then circF x else if n ≤ 4 * q then chalf (cadd (circF a) (circF x)) else circF a := by
    unfold rootS; rw [← hq, ← ha, ← hx]
  rw [← hq, ← ha] at er
  have OK := hid ok
  have ER := hid er
  have ES := hid es
  generalize circF a = A at *
  generalize circF x = X at *
  clear ok er es hp ha hq hx
  have pb : p ≤ 4194304 := by omega
  by_cases g : q = 0
  · have HE := hid (show rootF n j = A from by rw [ER.out, if_pos g])
    clear cX bX
    subst g
    go_enter Tafg.func57, Tafg.ntmps57
    go_wp2_with fail
    refine same_mono (cA _) ?_
    go_wp2_with fail
    go_ret
    exact ⟨by rw [HE.out]; rfl, rfl⟩
  have g' : ((q : Int) == 0) = false := by simp; omega
  by_cases g3 : 3 * n ≤ 4 * q
  · have HE := hid (show rootS n j = X from by rw [ES.out, if_pos g3])
    have d1 : 3 * (n : Int) ≤ 4 * (q : Int) := by omega
    go_enter Tafg.func57, Tafg.ntmps57
    go_wp2_with fail
    refine same_mono (cA _) ?_
    go_wp2_with fail
    refine same_mono (cX _) ?_
    go_wp2_with fail
    go_loop [7, 9] (fun z i => ∃ k : Nat, k ≤ 5 ∧ z = CV (refN n (rootS n j) k) ∧ i = .int .i64 (k : Int)) (fun _ i => 5 - (intOf i).toNat)
    case atStart => exact ⟨0, by decide, by show _ = CV (rootS n j); rw [HE.out]; rfl, rfl⟩
    case round =>
      obtain ⟨k, hk, rfl, rfl⟩ := hrel
      have ok := OK.out
      generalize hzz : refN n (rootS n j) k = zz at *
      by_cases hlt : k < 5
      · have kb : (k : Int) < 5 := by omega
        have okk := ok k hlt
        rw [hzz] at okk
        have cR := refine_any zz n okk h0 hn
        have nx := hid (show refN n (rootS n j) (k + 1) = refF zz n from by rw [← hzz]; rfl)
        clear ok okk hzz
        go_wp2_with (first | (go_at_call 98; refine same_mono (cR _) ?_))
        go_round
        case rel => exact ⟨k + 1, by omega, (congrArg CV nx.out).symm, by go_num⟩
        case measure => simp [intOf]; omega
      · have e5 : k = 5 := by omega
        subst e5
        have fin := hid (show rootF n j = zz from by rw [ER.out, if_neg g, hzz])
        clear ok hzz
        go_wp2
        go_ret
        exact ⟨by rw [fin.out]; rfl, rfl⟩
  by_cases g4 : n ≤ 4 * q
  · have HE := hid (show rootS n j = chalf (cadd A X) from by rw [ES.out, if_neg g3, if_pos g4])
    have d1 : decide (3 * (n : Int) ≤ 4 * (q : Int)) = false := by simp; omega
    have d2 : (n : Int) ≤ 4 * (q : Int) := by omega
    have rc := run_cadd bA bX
    have cH := halved_any (cadd A X) (bA.add bX (by decide) (by decide))
    go_enter Tafg.func57, Tafg.ntmps57
    go_wp2_with fail
    refine same_mono (cA _) ?_
    go_wp2_with fail
    refine same_mono (cX _) ?_
    go_wp2_with fail
    refine same_mono (cH _) ?_
    go_wp2_with fail
    go_loop [7, 9] (fun z i => ∃ k : Nat, k ≤ 5 ∧ z = CV (refN n (rootS n j) k) ∧ i = .int .i64 (k : Int)) (fun _ i => 5 - (intOf i).toNat)
    case atStart => exact ⟨0, by decide, by show _ = CV (rootS n j); rw [HE.out]; rfl, rfl⟩
    case round =>
      obtain ⟨k, hk, rfl, rfl⟩ := hrel
      have ok := OK.out
      generalize hzz : refN n (rootS n j) k = zz at *
      by_cases hlt : k < 5
      · have kb : (k : Int) < 5 := by omega
        have okk := ok k hlt
        rw [hzz] at okk
        have cR := refine_any zz n okk h0 hn
        have nx := hid (show refN n (rootS n j) (k + 1) = refF zz n from by rw [← hzz]; rfl)
        clear ok okk hzz
        go_wp2_with (first | (go_at_call 98; refine same_mono (cR _) ?_))
        go_round
        case rel => exact ⟨k + 1, by omega, (congrArg CV nx.out).symm, by go_num⟩
        case measure => simp [intOf]; omega
      · have e5 : k = 5 := by omega
        subst e5
        have fin := hid (show rootF n j = zz from by rw [ER.out, if_neg g, hzz])
        clear ok hzz
        go_wp2
        go_ret
        exact ⟨by rw [fin.out]; rfl, rfl⟩
  · have HE := hid (show rootS n j = A from by rw [ES.out, if_neg g3, if_neg g4])
    have d1 : decide (3 * (n : Int) ≤ 4 * (q : Int)) = false := by simp; omega
    have d2 : decide ((n : Int) ≤ 4 * (q : Int)) = false := by simp; omega
    go_enter Tafg.func57, Tafg.ntmps57
    go_wp2_with fail
    refine same_mono (cA _) ?_
    go_wp2_with fail
    refine same_mono (cX _) ?_
    go_wp2_with fail
    go_loop [7, 9] (fun z i => ∃ k : Nat, k ≤ 5 ∧ z = CV (refN n (rootS n j) k) ∧ i = .int .i64 (k : Int)) (fun _ i => 5 - (intOf i).toNat)
    case atStart => exact ⟨0, by decide, by show _ = CV (rootS n j); rw [HE.out]; rfl, rfl⟩
    case round =>
      obtain ⟨k, hk, rfl, rfl⟩ := hrel
      have ok := OK.out
      generalize hzz : refN n (rootS n j) k = zz at *
      by_cases hlt : k < 5
      · have kb : (k : Int) < 5 := by omega
        have okk := ok k hlt
        rw [hzz] at okk
        have cR := refine_any zz n okk h0 hn
        have nx := hid (show refN n (rootS n j) (k + 1) = refF zz n from by rw [← hzz]; rfl)
        clear ok okk hzz
        go_wp2_with (first | (go_at_call 98; refine same_mono (cR _) ?_))
        go_round
        case rel => exact ⟨k + 1, by omega, (congrArg CV nx.out).symm, by go_num⟩
        case measure => simp [intOf]; omega
      · have e5 : k = 5 := by omega
        subst e5
        have fin := hid (show rootF n j = zz from by rw [ER.out, if_neg g, hzz])
        clear ok hzz
        go_wp2
        go_ret
        exact ⟨by rw [fin.out]; rfl, rfl⟩
end Go.Proofs.Ygctaf
