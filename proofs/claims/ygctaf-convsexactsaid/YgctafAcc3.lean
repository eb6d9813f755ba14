/-
  WALK: acc.Cmp
-/
import Derived.Test.YgctafAcc2
import Derived.Test.YgctafW3
import Derived.Deep.QuietTactic
namespace Go.Proofs.Ygctaf
open Go.RowKit

def cmpZ (x y : Int) : Int := if x < y then -1 else if x = y then 0 else 1
theorem div_dg (x : Int) (j : Nat) : x / 2 ^ (64 * j) = 18446744073709551616 * (x / 2 ^ (64 * (j + 1))) + dg x j := by
  unfold dg
  rw [M_succ, ← Int.ediv_ediv_of_nonneg (Int.le_of_lt (M_pos j))]
  omega
theorem lt_of_div {x y M : Int} (hM : 0 < M) (h : x / M < y / M) : x < y := by
  apply Int.lt_of_not_ge
  intro hge
  have := Int.ediv_le_ediv hM hge
  omega
theorem xor_top_nat (n : Nat) (h : n < 2 ^ 64) : n ^^^ 2 ^ 63 = (n + 2 ^ 63) % 2 ^ 64 := by
  have h1 : (n ^^^ 2 ^ 63).testBit 63 = !(n.testBit 63) := by rw [Nat.testBit_xor, Nat.testBit_two_pow_self]; cases n.testBit 63 <;> rfl
  have hlt : n ^^^ 2 ^ 63 < 2 ^ 64 := Nat.xor_lt_two_pow h (by decide)
  have hm : (n ^^^ 2 ^ 63) % 2 ^ 63 = n % 2 ^ 63 := by
    rw [Nat.xor_mod_two_pow]; simp
  have t1 : ∀ m : Nat, m < 2 ^ 64 → (m.testBit 63 = true ↔ 2 ^ 63 ≤ m) := by
    intro m hm
    rw [Nat.testBit_eq_decide_div_mod_eq, decide_eq_true_eq]; omega
  have a := t1 n h
  have b := t1 _ hlt
  rw [h1] at b
  generalize n ^^^ 2 ^ 63 = m at *
  cases hb : n.testBit 63
  · rw [hb] at a b
    simp at a b
    omega
  · rw [hb] at a b
    simp at a b
    omega
theorem xor_top {x : Int} (h : InAcc x) : bits .xor .u64 (dg x 67) 9223372036854775808 = x / 2 ^ (64 * 67) + 9223372036854775808 := by
  have r := dg_range x 67
  have t := top_range h
  obtain ⟨n, hn⟩ := Int.eq_ofNat_of_zero_le r.1
  have hx := u64_xor_nat n 9223372036854775808 (by omega) (by decide)
  rw [hn, show (9223372036854775808 : Int) = ((9223372036854775808 : Nat) : Int) from rfl, hx, show (9223372036854775808 : Nat) = 2 ^ 63 from rfl, xor_top_nat n (by omega)]
  unfold dg at hn
  generalize x / 2 ^ (64 * 67) = q at *
  omega

set_option maxHeartbeats 1000000 in
theorem cmp_any (b o b2 o2 : Nat) (x y : Int) (w : World) (hx : InAcc x) (hy : InAcc y) (h : Arr w b o (dg x)) (h2 : Arr w b2 o2 (dg y)) :
    Calls Tafg.prog 32 #[.pointer (some ⟨b, o, none⟩), .pointer (some ⟨b2, o2, none⟩)] w fun e w' => e = .returned (.int .i8 (cmpZ x y)) ∧ Frm [] w w' ∧ w'.heap.size = w.heap.size := by
  have c1 := h.cell (i := 67) (by decide)
  have c2 := h2.cell (i := 67) (by decide)
  have x1 := xor_top hx
  have x2 := xor_top hy
  have t1 := top_range hx
  have t2 := top_range hy
  have HA := hid h
  have HB := hid h2
  obtain ⟨p, hp⟩ : ∃ p, p = x / 2 ^ (64 * 67) := ⟨_, rfl⟩
  obtain ⟨q, hq⟩ : ∃ q, q = y / 2 ^ (64 * 67) := ⟨_, rfl⟩
  rw [← hp] at x1 t1
  rw [← hq] at x2 t2
  have HP := hid hp
  have HQ := hid hq
  clear h h2 hx hy hp hq
  go_enter Tafg.func32, Tafg.ntmps32
  go_wp2
  go_quiet (fail)
  go_wp2
  go_loopw [4, 5, 6, 7] (fun _ s5 s6 s7 wr => ∃ k : Nat, k ≤ 68 ∧ s7 = .int .i64 ((k : Int) - 1) ∧ (k = 68 → s5 = .int .u64 (p + 9223372036854775808) ∧ s6 = .int .u64 (q + 9223372036854775808)) ∧ (k < 68 → x / 2 ^ (64 * k) = y / 2 ^ (64 * k)) ∧ Frm [] w wr ∧ wr.heap.size = w.heap.size) (fun _ _ _ i _ => (intOf i + 1).toNat)
  case atStart => exact ⟨68, by omega, rfl, fun _ => ⟨rfl, rfl⟩, fun h => by omega, (Frm.refl _ _).drewN _, rfl⟩
  case round =>
    obtain ⟨k, hk, rfl, htop, hlow, hfr, hsz⟩ := hrel
    have HFR := hid hfr
    have HSZ := hid hsz
    by_cases hk68 : k = 68
    · subst hk68
      obtain ⟨rfl, rfl⟩ := htop rfl
      clear htop hlow hfr hsz
      by_cases g1 : p < q
      · have es : cmpZ x y = -1 := by
          unfold cmpZ; rw [if_pos]
          exact lt_of_div (M_pos 67) (by rw [← HP.out, ← HQ.out]; exact g1)
        have d1 : p + 9223372036854775808 < q + 9223372036854775808 := by omega
        have HES := hid es
        clear es
        go_wp2
        go_ret
        exact ⟨by rw [HES.out]; rfl, HFR.out, HSZ.out⟩
      · by_cases g2 : q < p
        · have es : cmpZ x y = 1 := by
            have hlt : y < x := lt_of_div (M_pos 67) (by rw [← HP.out, ← HQ.out]; exact g2)
            unfold cmpZ; rw [if_neg (by omega), if_neg (by omega)]
          have d1 : ¬ (p + 9223372036854775808 < q + 9223372036854775808) := by omega
          have d2 : q + 9223372036854775808 < p + 9223372036854775808 := by omega
          have HES := hid es
          clear es
          go_wp2
          go_ret
          exact ⟨by rw [HES.out]; rfl, HFR.out, HSZ.out⟩
        · have e : p = q := by omega
          have d1 : ¬ (p + 9223372036854775808 < q + 9223372036854775808) := by omega
          have d2 : ¬ (q + 9223372036854775808 < p + 9223372036854775808) := by omega
          have HE := hid e
          clear e
          go_wp2
          go_roundw
          case rel => exact ⟨67, by omega, by go_num, fun h => by omega, fun _ => by rw [← HP.out, ← HQ.out]; exact HE.out, HFR.out, HSZ.out⟩
          case measure => simp [intOf]
    · have hk2 : k < 68 := by omega
      have heq := hlow hk2
      clear htop hlow hfr hsz
      rcases Nat.eq_zero_or_pos k with h0 | h0
      · subst h0
        have hxy : x = y := by simpa using heq
        have es : cmpZ x y = 0 := by unfold cmpZ; rw [if_neg (by omega), if_pos hxy]
        have HES := hid es
        clear es heq hxy
        go_wp2
        go_ret
        exact ⟨by rw [HES.out]; rfl, HFR.out, HSZ.out⟩
      · obtain ⟨j, rfl⟩ : ∃ j, k = j + 1 := ⟨k - 1, by omega⟩
        have c3 := (HA.out.frame HFR.out (by simp)).cell (show j < 68 by omega)
        have c4 := (HB.out.frame HFR.out (by simp)).cell (show j < 68 by omega)
        have ex := div_dg x j
        have ey := div_dg y j
        rw [heq] at ex
        have e1 : ((j + 1 : Nat) : Int) - 1 = (j : Int) := by omega
        have b1 : (0 : Int) ≤ (j : Int) := by omega
        have b2 : (j : Int) < 68 := by omega
        have b3 : (j : Int) < 67 := by omega
        rw [e1]
        clear e1
        by_cases g1 : dg x j < dg y j
        · have es : cmpZ x y = -1 := by
            unfold cmpZ; rw [if_pos]
            exact lt_of_div (M_pos j) (by omega)
          have HES := hid es
          clear es heq ex ey
          go_wp2
          go_quiet (fail)
          go_wp2
          go_ret
          exact ⟨by rw [HES.out]; rfl, HFR.out.drewN _, HSZ.out⟩
        · by_cases g2 : dg y j < dg x j
          · have es : cmpZ x y = 1 := by
              have hlt : y < x := lt_of_div (M_pos j) (by omega)
              unfold cmpZ; rw [if_neg (by omega), if_neg (by omega)]
            have HES := hid es
            clear es heq ex ey
            go_wp2
            go_quiet (fail)
            go_wp2
            go_ret
            exact ⟨by rw [HES.out]; rfl, HFR.out.drewN _, HSZ.out⟩
          · have HE := hid (show x / 2 ^ (64 * j) = y / 2 ^ (64 * j) by omega)
            clear heq ex ey
            go_wp2
            go_quiet (fail)
            go_wp2
            go_roundw
            case rel => exact ⟨j, by omega, by go_num, fun h => by omega, fun _ => HE.out, HFR.out.drewN _, HSZ.out⟩
            case measure => simp [intOf]
end Go.Proofs.Ygctaf
