/-
  WALK: Acc.AddProd
-/
import Derived.Test.YgctafAcc7
import Derived.Test.YgctafMul64
namespace Go.Proofs.Ygctaf
open Go.RowKit Ieee

/-- The product of two doubles times 2^2148. -/
def PZ (x y : Nat) : Int := (if (splitF x).1 != (splitF y).1 then -1 else 1) * (((splitF x).2.1 * (splitF y).2.1 * 2 ^ ((splitF x).2.2.1 + (splitF y).2.2.1 + 2148).toNat : Nat) : Int)

theorem split_num {x : Nat} (hx : x < 2 ^ 64) (hn : Num x) :
    ∃ s m e c, splitF x = (s, m, e, c) ∧ c ≤ 1 ∧ m < 2 ^ 53 ∧ -1074 ≤ e ∧ e ≤ 971 ∧ V x = sgn s * ((m : Rat) * p2 e) := by
  rcases split_cases x hx with ⟨_, h, _⟩ | ⟨_, h, _⟩ | ⟨h, _, hv, _⟩ | ⟨m, i, h, _, _, _, hm, he1, he2, hv⟩
  · exact absurd hn h
  · exact absurd hn h
  · refine ⟨_, _, _, _, h, by decide, by decide, by decide, by decide, ?_⟩
    rw [hv, show ((0 : Nat) : Rat) = 0 from rfl, Rat.zero_mul, Rat.mul_zero]
  · exact ⟨_, _, _, _, h, by decide, hm, he1, he2, hv⟩

theorem PZ_val {x y : Nat} (hx : x < 2 ^ 64) (hn : Num x) (hy : y < 2 ^ 64) (hm : Num y) : (PZ x y : Rat) = V x * V y * p2 2148 := by
  obtain ⟨s, m, e, c, h1, _, _, e1, _, v1⟩ := split_num hx hn
  obtain ⟨t, n, f, d, h2, _, _, f1, _, v2⟩ := split_num hy hm
  unfold PZ
  rw [h1, h2, v1, v2]
  dsimp only
  rw [Rat.intCast_mul, Rat.intCast_natCast, Rat.natCast_mul, Rat.natCast_mul, ← p2_nat, show (((e + f + 2148).toNat : Nat) : Int) = e + f + 2148 from by omega, p2_add, p2_add]
  have k1 : ((1 : Int) : Rat) = 1 := rfl
  have k2 : ((-1 : Int) : Rat) = -1 := rfl
  cases s <;> cases t <;> simp only [sgn_true, sgn_false, bne_self_eq_false, Bool.false_eq_true, if_false, if_true, Bool.bne_true, Bool.bne_false, Bool.not_false, k1, k2] <;> grind

set_option maxHeartbeats 2000000 in
theorem addProd_any (b o x y : Nat) (z : Int) (w : World) (hx : x < 2 ^ 64) (hn : Num x) (hy : y < 2 ^ 64) (hm : Num y) (h : Arr w b o (dg z)) :
    Calls Tafg.prog 100 #[.pointer (some ⟨b, o, none⟩), .float .f64 x, .float .f64 y] w fun e w' => e = .returned (.bool true) ∧ Arr w' b o (dg (z + PZ x y)) ∧ Only b o w w' := by
  have hs1 := split_any x hx
  have hs2 := split_any y hy
  obtain ⟨s, m, e, c, h1, hc, bm, e1, e2, _⟩ := split_num hx hn
  obtain ⟨t, n, f, d, h2, hd, bn, f1, f2, _⟩ := split_num hy hm
  have hF : PZ x y = (if s != t then -1 else 1) * ((m * n * 2 ^ (e + f + 2148).toNat : Nat) : Int) := by unfold PZ; rw [h1, h2]
  rw [h1] at hs1
  rw [h2] at hs2
  unfold splitV at hs1 hs2
  dsimp only at hs1 hs2
  generalize PZ x y = F at *
  clear h1 h2 hx hn hy hm
  obtain ⟨i0, hi0⟩ : ∃ i0 : Nat, e + f + 2148 = (i0 : Int) := ⟨(e + f + 2148).toNat, by omega⟩
  rw [hi0, Int.toNat_natCast] at hF
  have d1 : decide ((1 : Int) < (c : Int)) = false := by simp; omega
  have d2 : decide ((1 : Int) < (d : Int)) = false := by simp; omega
  have hi1 : i0 ≤ 4090 := by omega
  have hi2 : i0 = 64 * (i0 / 64) + i0 % 64 := by omega
  have hmul := accMul_any m n (by omega) (by omega)
  obtain ⟨hi, hhi⟩ : ∃ a, a = m * n / 18446744073709551616 := ⟨_, rfl⟩
  obtain ⟨lo, hlo⟩ : ∃ a, a = m * n % 18446744073709551616 := ⟨_, rfl⟩
  rw [← hhi, ← hlo] at hmul
  have bmn : m * n < 2 ^ 53 * 2 ^ 64 := Nat.mul_lt_mul_of_lt_of_lt bm (by omega)
  have bhi : hi < 2 ^ 64 := by omega
  have blo : lo < 2 ^ 64 := by omega
  have emn : m * n = hi * 2 ^ 64 + lo := by omega
  have hyy : ((m * n * 2 ^ i0 : Nat) : Int) = (((hi * 2 ^ 64 + lo) * 2 ^ (i0 % 64) * 2 ^ (64 * (i0 / 64)) : Nat) : Int) := by
    rw [← emn, Nat.mul_assoc (m * n) (2 ^ (i0 % 64)), ← Nat.pow_add, Nat.add_comm (i0 % 64), ← hi2]
  have HF := hid hF
  generalize hY : ((m * n * 2 ^ i0 : Nat) : Int) = Y at *
  have hpp := place_pos b o hi lo (i0 / 64) (i0 % 64) i0 z Y w bhi blo (by omega) (by omega) hi2 hyy h
  have hpn := place_neg b o hi lo (i0 / 64) (i0 % 64) i0 z Y w bhi blo (by omega) (by omega) hi2 hyy h
  have HPP := hid hpp
  have HPN := hid hpn
  clear hpp hpn hyy emn bmn hhi hlo hi2 h hF hY bm bn
  cases s <;> cases t
  all_goals
    go_enter Tafg.func100, Tafg.ntmps100
    go_wp2_with (first | (go_at_call_of 82 (Value.float .f64 x); refine (hs1 _).mono ?_; rintro e w' ⟨rfl, rfl⟩) | (go_at_call_of 82 (Value.float .f64 y); refine (hs2 _).mono ?_; rintro e w' ⟨rfl, rfl⟩) | (go_at_call 115; refine same_mono (hmul _) ?_))
  · refine Calls.mono HPP.out ?_
    rintro e w1 ⟨rfl, ha, hon⟩
    go_wp2
    go_ret
    refine ⟨rfl, ?_, hon⟩
    have e : F = Y := by rw [HF.out]; simp
    rw [e]; exact ha
  · refine Calls.mono HPN.out ?_
    rintro e w1 ⟨rfl, ha, hon⟩
    go_wp2
    go_ret
    refine ⟨rfl, ?_, hon⟩
    have e : F = -Y := by rw [HF.out]; simp
    rw [e, ← Int.sub_eq_add_neg]; exact ha
  · refine Calls.mono HPN.out ?_
    rintro e w1 ⟨rfl, ha, hon⟩
    go_wp2
    go_ret
    refine ⟨rfl, ?_, hon⟩
    have e : F = -Y := by rw [HF.out]; simp
    rw [e, ← Int.sub_eq_add_neg]; exact ha
  · refine Calls.mono HPP.out ?_
    rintro e w1 ⟨rfl, ha, hon⟩
    go_wp2
    go_ret
    refine ⟨rfl, ?_, hon⟩
    have e : F = Y := by rw [HF.out]; simp
    rw [e]; exact ha
end Go.Proofs.Ygctaf
