/-
  WALKS: fftx.power, fftx.refine.
-/
import Derived.Test.YgctafRefOk
import Derived.Test.YgctafW29
namespace Go.Proofs.Ygctaf
open Go.RowKit Ieee
attribute [local go_sem] CV_eq FV_eq

/-- What stands while power runs. -/
def PwAt (z0 : Nat × Nat) (n0 n : Nat) (p z : Nat × Nat) : Prop :=
  ∃ (M : Rat) (F i L : Nat), Len (cv z0) M ∧ 1 ≤ M ∧ qp M 4096 * qp (1 + rM) 4096 ≤ 2 ∧ i + F = 12 ∧ n < 2 ^ F ∧ L + 2 ^ i * n ≤ 2048 ∧ PwSt (cv z0) M i L p z ∧ powL F p z n = powF z0 n0
theorem PwAt.start {z : Nat × Nat} {n : Nat} (h : PowOk z) (hn : n ≤ 2048) : PwAt z n n oneC z := by
  obtain ⟨hb, M, hZ, hM, hbig⟩ := h
  refine ⟨M, 12, 0, 0, hZ, hM, hbig, rfl, by have : (2 : Nat) ^ 12 = 4096 := rfl; omega, by rw [Nat.pow_zero]; omega, ?_, rfl⟩
  refine ⟨oneC_bd, hb, ?_, ?_⟩
  · rw [cv_oneC]
    refine (Len.self Cx.one).mono ?_
    show 0 ≤ 1 * 1 - 1
    decide +kernel
  · rw [show (cv z).pow (2 ^ 0) = cv z from Cx.pow_one _]
    refine (Len.self _).mono ?_
    show 0 ≤ qp M 1 * 1 - qp M 1
    grind
theorem PwAt.bds {z0 : Nat × Nat} {n0 n : Nat} {p z : Nat × Nat} (h : PwAt z0 n0 n p z) : Bd 1 p ∧ Bd 1 z := by
  obtain ⟨M, F, i, L, h1, h2, h3, h4, h5, h6, h7, h8⟩ := h
  exact ⟨h7.bp, h7.bz⟩
theorem PwAt.next {z0 : Nat × Nat} {n0 n : Nat} {p z : Nat × Nat} (h : PwAt z0 n0 n p z) (h0 : 0 < n) : PwAt z0 n0 (n / 2) (if n % 2 = 1 then cmul p z else p) (cmul z z) := by
  obtain ⟨M, F, i, L, h1, h2, h3, h4, h5, h6, h7, h8⟩ := h
  have hF : F ≠ 0 := by rintro rfl; have : n < 1 := h5; omega
  obtain ⟨G, rfl⟩ : ∃ G, F = G + 1 := ⟨F - 1, by omega⟩
  have st := h7.step h1 h2 h3 h6 h0
  have hps : 2 ^ (i + 1) = 2 * 2 ^ i := by rw [Nat.pow_succ, Nat.mul_comm]
  have key : (if n % 2 = 1 then L + 2 ^ i else L) + 2 ^ (i + 1) * (n / 2) = L + 2 ^ i * n := by
    have e1 : 2 ^ i * n = 2 ^ i * (n % 2) + 2 ^ (i + 1) * (n / 2) := by
      have := Nat.mod_add_div n 2
      rw [hps, Nat.mul_comm 2 (2 ^ i), Nat.mul_assoc, ← Nat.mul_add, this]
    split
    · rename_i g
      rw [g, Nat.mul_one] at e1; omega
    · rename_i g
      have g0 : n % 2 = 0 := by omega
      rw [g0, Nat.mul_zero] at e1; omega
  refine ⟨M, G, i + 1, _, h1, h2, h3, by omega, by rw [Nat.pow_succ] at h5; omega, by rw [key]; exact h6, st, ?_⟩
  rw [← h8]
  show _ = (if n = 0 then p else _)
  rw [if_neg (show ¬ n = 0 by omega)]
theorem PwAt.done {z0 : Nat × Nat} {n0 n : Nat} {p z : Nat × Nat} (h : PwAt z0 n0 n p z) (h0 : n = 0) : p = powF z0 n0 := by
  obtain ⟨M, F, i, L, h1, h2, h3, h4, h5, h6, h7, h8⟩ := h
  subst h0
  rw [← h8]
  cases F with
  | zero => rfl
  | succ F => show _ = (if 0 = 0 then p else _); rw [if_pos rfl]

theorem odd_bit (m : Nat) (h : m ≤ 2048) : (bits .and .i64 (m : Int) 1 != 0) = decide (m % 2 = 1) := by
  have := i64_and_nat m 1 (by omega) (by omega)
  rw [show ((1 : Nat) : Int) = 1 from rfl, Nat.and_one_is_mod] at this
  rw [this]
  rcases Nat.mod_two_eq_zero_or_one m with g | g <;> rw [g] <;> rfl

set_option maxHeartbeats 1000000 in
theorem power_any (z : Nat × Nat) (n : Nat) (h : PowOk z) (hn : n ≤ 2048) (w : World) :
    Calls Tafg.prog 114 #[CV z, .int .i64 (n : Int)] w fun r w' => r = .returned (CV (powF z n)) ∧ w' = w := by
  have H := hid (PwAt.start h hn)
  clear h
  go_enter Tafg.func114, Tafg.ntmps114
  go_wp2
  simp only [CV_eq]
  go_loop [0, 1, 5] (fun a b c => ∃ (m : Nat) (p y : Nat × Nat), m ≤ 2048 ∧ PwAt z n m p y ∧ a = CV y ∧ b = .int .i64 (m : Int) ∧ c = CV p) (fun _ b _ => (intOf b).toNat)
  case atStart => exact ⟨n, oneC, z, hn, H.out, rfl, rfl, rfl⟩
  case round =>
    obtain ⟨m, p, y, hm, hat, rfl, rfl, rfl⟩ := hrel
    obtain ⟨bp, by'⟩ := hat.bds
    by_cases g : m = 0
    · subst g
      have e := hat.done rfl
      subst e
      go_wp2
      go_ret
      exact ⟨rfl, rfl⟩
    · have g0 : (0 : Int) < (m : Int) := by omega
      have nx := hid (hat.next (by omega))
      have c1 := mul_any p y bp by' (by decide) (by decide)
      have c2 := mul_any y y by' by' (by decide) (by decide)
      have ob := odd_bit m hm
      by_cases ho : m % 2 = 1
      · rw [if_pos ho] at nx
        rw [decide_eq_true ho] at ob
        go_wp2_with fail
        refine same_mono (c1 _) ?_
        go_wp2_with fail
        refine same_mono (c2 _) ?_
        go_wp2_with fail
        go_round
        case rel => exact ⟨m / 2, _, _, by omega, nx.out, rfl, by go_num, rfl⟩
        case measure => simp [intOf]; omega
      · rw [if_neg ho] at nx
        rw [decide_eq_false ho] at ob
        go_wp2_with fail
        refine same_mono (c2 _) ?_
        go_wp2_with fail
        go_round
        case rel => exact ⟨m / 2, _, _, by omega, nx.out, rfl, by go_num, rfl⟩
        case measure => simp [intOf]; omega
end Go.Proofs.Ygctaf
