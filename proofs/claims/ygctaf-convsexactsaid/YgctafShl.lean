/-
  WALK: Acc.Shl by less than 64.
-/
import Derived.Test.YgctafAcc3
import Derived.Test.YgctafShlNum
namespace Go.Proofs.Ygctaf
open Go.RowKit

theorem shl_or {d g : Int} {s t : Nat} (ht : t + s = 64) (hd : 0 ≤ d) (hg0 : 0 ≤ g) (hg : g < 2 ^ s) (hg2 : g < 18446744073709551616) :
    bits .or .u64 (IntKind.u64.wrap (d * 2 ^ s)) g = d * 2 ^ s % 18446744073709551616 + g := by
  obtain ⟨D, rfl⟩ := Int.eq_ofNat_of_zero_le hd
  obtain ⟨G, rfl⟩ := Int.eq_ofNat_of_zero_le hg0
  have eB : 2 ^ 64 = 2 ^ s * 2 ^ t := by rw [← Nat.pow_add, Nat.add_comm, ht]
  have e1 : (D : Int) * 2 ^ s % 18446744073709551616 = ((2 ^ s * (D % 2 ^ t) : Nat) : Int) := by
    have : 2 ^ s * D % 2 ^ 64 = 2 ^ s * (D % 2 ^ t) := by rw [eB, Nat.mul_mod_mul_left]
    rw [← this, Int.natCast_emod, Int.natCast_mul, Int.natCast_pow, Int.mul_comm]; rfl
  have hG : G < 2 ^ s := by
    have : ((2 : Int) ^ s) = ((2 ^ s : Nat) : Int) := by rw [Int.natCast_pow]; rfl
    rw [this] at hg; omega
  have b1 : 2 ^ s * (D % 2 ^ t) < 18446744073709551616 := by
    have : 2 ^ s * D % 2 ^ 64 = 2 ^ s * (D % 2 ^ t) := by rw [eB, Nat.mul_mod_mul_left]
    rw [← this]; exact Nat.mod_lt _ (by decide)
  rw [IntKind.wrap_u64, e1, u64_or_nat _ _ b1 (by omega), ← Nat.two_pow_add_eq_or_of_lt hG]
  exact Int.natCast_add _ _
theorem arr_down {w : World} {b o j : Nat} {f g : Nat → Int} (h : Arr w b o (fun i => if j + 1 ≤ i then f i else g i)) (hj : j < 68) :
    Arr (w.setCell ⟨b, o + j, none⟩ (.int .u64 (f j))) b o (fun i => if j ≤ i then f i else g i) := by
  refine (h.set hj (f j)).congr fun i _ => ?_
  by_cases e : i = j
  · subst e; rw [upd_same, if_pos (Nat.le_refl _)]
  · rw [upd_ne _ _ _ _ e]
    have : (j ≤ i) = (j + 1 ≤ i) := by rw [eq_iff_iff]; omega
    simp only [this]

set_option maxHeartbeats 1000000 in
theorem shl_any (b o s : Nat) (x : Int) (w : World) (hs : s < 64) (h : Arr w b o (dg x)) :
    Calls Tafg.prog 54 #[.pointer (some ⟨b, o, none⟩), .int .u16 (s : Int)] w fun e w' => e = .returned (.tuple #[]) ∧ Arr w' b o (dg (x * 2 ^ s)) ∧ Only b o w w' := by
  obtain ⟨t, ht⟩ : ∃ t, t + s = 64 := ⟨64 - s, by omega⟩
  have q1 : (s : Int).tdiv 64 = 0 := by rw [Int.tdiv_eq_ediv_of_nonneg (by omega)]; omega
  have q2 : (s : Int).tmod 64 = (s : Int) := by rw [Int.tmod_eq_emod_of_nonneg (by omega)]; omega
  have q3 : IntKind.u16.wrap (64 - (s : Int)) = (t : Int) := by rw [IntKind.wrap_u16]; omega
  have q4 : 64 - (s : Int) = (t : Int) := by omega
  have b1 : (0 : Int) ≤ (t : Int) := by omega
  have HA := hid h
  have HT := hid ht
  clear h ht
  go_enter Tafg.func54, Tafg.ntmps54
  go_wp2
  go_loopw [6, 7] (fun i _ wr => ∃ k : Nat, k ≤ 68 ∧ i = .int .i64 ((k : Int) - 1) ∧ Arr wr b o (fun j => if k ≤ j then dg (x * 2 ^ s) j else dg x j) ∧ Only b o w wr) (fun i _ _ => (intOf i + 1).toNat)
  case atStart => exact ⟨68, by omega, rfl, HA.out.congr fun i hi => by rw [if_neg (by omega)], Only.refl _ _ _⟩
  case round =>
    obtain ⟨k, hk, rfl, ha, hon⟩ := hrel
    rcases Nat.eq_zero_or_pos k with h0 | h0
    · subst h0
      have HST : Hid (Arr wr b o (dg (x * 2 ^ s))) := hid (ha.congr fun i _ => by rw [if_pos (Nat.zero_le _)])
      have HON := hid hon
      clear ha hon
      go_wp2
      go_end0
      exact ⟨rfl, HST.out, HON.out⟩
    · obtain ⟨j, rfl⟩ : ∃ j, k = j + 1 := ⟨k - 1, by omega⟩
      have hj : j < 68 := by omega
      have e1 : ((j + 1 : Nat) : Int) - 1 = (j : Int) := by omega
      have c1 := ha.cell hj
      rw [if_neg (by omega)] at c1
      have f1 := ha.free hj
      have l0 : (0 : Int) ≤ (j : Int) := by omega
      have l1 : (j : Int) < 68 := by omega
      have hst := arr_down ha hj
      have hon2 := hon.trans (Only.set (.int .u64 (dg (x * 2 ^ s) j)) hj)
      have HST := hid hst
      have HON := hid hon2
      rw [e1]
      rcases Nat.eq_zero_or_pos j with g0 | g0
      · subst g0
        have v1 : IntKind.u64.wrap (dg x 0 * 2 ^ s) = dg (x * 2 ^ s) 0 := by rw [IntKind.wrap_u64, dg_shl_zero]
        rw [Nat.add_zero] at c1 f1
        clear ha hon hst hon2 e1
        go_wp2
        exact ⟨⟨0, by omega, rfl, HST.out, HON.out⟩, by simp [intOf]⟩
      · obtain ⟨i, rfl⟩ : ∃ i, j = i + 1 := ⟨j - 1, by omega⟩
        have c2 := ha.cell (i := i) (by omega)
        rw [if_neg (by omega)] at c2
        have r := dg_range x i
        have r2 := dg_range x (i + 1)
        have hT : (0 : Int) < 2 ^ t := Int.pow_pos (by decide)
        have g1 : 0 ≤ dg x i / 2 ^ t := Int.ediv_nonneg r.1 (Int.le_of_lt hT)
        have g2 : dg x i / 2 ^ t < 2 ^ s := Int.ediv_lt_of_lt_mul hT (by
          rw [← Int.pow_add, Nat.add_comm, HT.out]; exact r.2)
        have g3 : dg x i / 2 ^ t < 18446744073709551616 := Int.lt_of_le_of_lt (Int.ediv_le_self _ r.1) r.2
        have v1 : bits .or .u64 (IntKind.u64.wrap (dg x (i + 1) * 2 ^ s)) (dg x i / 2 ^ t) = dg (x * 2 ^ s) (i + 1) := by
          rw [shl_or HT.out r2.1 g1 g2 g3, dg_shl_succ x s t i HT.out]
        have m1 : (0 : Int) < ((i + 1 : Nat) : Int) := by omega
        have m2 : ((i + 1 : Nat) : Int) - 1 = (i : Int) := by omega
        have m3 : (0 : Int) ≤ (i : Int) := by omega
        have m4 : (i : Int) < 68 := by omega
        clear ha hon hst hon2 e1 g1 g2 g3 r r2 hT
        go_wp2
        exact ⟨⟨i + 1, by omega, by rw [show ((i + 1 : Nat) : Int) - 1 = (i : Int) from by omega], HST.out, HON.out⟩, by simp [intOf]; omega⟩
end Go.Proofs.Ygctaf
