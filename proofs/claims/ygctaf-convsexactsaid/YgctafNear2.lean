/-
  law.atLeast; fft.Nearest RIGHT, plain: both differences are exact.
-/
import Derived.Test.YgctafW4
import Derived.Test.YgctafW2
import Derived.Test.YgctafFl5
namespace Go.Proofs.Ygctaf
open Ieee Go.RowKit

/-- law.atLeast -/
def atLeastB (x : Nat) (e : Int) : Bool :=
  let s := splitF x
  if s.2.2.2 ≠ 1 then false else decide (e ≤ s.2.2.1 + highN s.2.1 64)

theorem atLeastB_iff (x : Nat) (hx : x < 2 ^ 64) (e : Int) : atLeastB x e = true ↔ Num x ∧ p2 e ≤ (V x).abs := by
  unfold atLeastB
  rcases split_cases x hx with ⟨h, hn, _⟩ | ⟨h, hn, _⟩ | ⟨h, hn, hv, _⟩ | ⟨m, i, h, hn, hr, hm0, hm53, he1, he2, hv⟩
  · rw [h]; simp [hn]
  · rw [h]; simp [hn]
  · rw [h]; simp only [ne_eq]
    rw [hv, Rat.abs_zero]
    have := p2_pos e
    constructor
    · intro h; simp at h
    · rintro ⟨_, h⟩; exfalso; grind
  · rw [h]
    obtain ⟨e1, e2, e3⟩ := ends_spec m hm0 (by omega)
    have ha : (V x).abs = (m : Rat) * p2 i := by rw [hv, sgn_abs, Rat.abs_of_nonneg (Rat.mul_nonneg Rat.natCast_nonneg (p2_nonneg _))]
    simp only [ne_eq, not_true_eq_false, if_false]
    rw [ha, decide_eq_true_eq, e1]
    have hlo := mag_lo m hm0 i
    have hhi := mag_hi m i
    constructor
    · intro h1
      exact ⟨hn, Rat.le_trans (p2_le h1) hlo⟩
    · rintro ⟨_, h1⟩
      by_cases h2 : e ≤ i + (m.log2 : Int)
      · exact h2
      · have := p2_le (show i + (m.log2 : Int) + 1 ≤ e by omega)
        grind

theorem atLeast_any (x : Nat) (hx : x < 2 ^ 64) (e0 : Int) (w : World) :
    Calls Tafg.prog 28 #[.float .f64 x, .int .i64 e0] w fun e w' => e = .returned (.bool (atLeastB x e0)) ∧ w' = w := by
  unfold atLeastB
  have hsp := split_any x hx
  have hcs := split_cases x hx
  generalize splitF x = s at *
  obtain ⟨sn, sm, se, sc⟩ := s
  have hb : sc = 0 ∨ sc = 2 ∨ sc = 3 ∨ (sc = 1 ∧ sm < 2 ^ 53 ∧ -1074 ≤ se ∧ se ≤ 971 ∧ sm ≠ 0) := by
    rcases hcs with ⟨h, _⟩ | ⟨h, _⟩ | ⟨h, _⟩ | ⟨m, i, h, _, _, h1, h2, h3, h4, _⟩
    · cases h; simp
    · cases h; simp
    · cases h; simp
    · cases h; simp [h1]; omega
  clear hcs hx
  unfold splitV at hsp
  dsimp only at hsp ⊢
  rcases hb with rfl | rfl | rfl | ⟨rfl, h1, h2, h3, h4⟩
  · go_enter Tafg.func28, Tafg.ntmps28
    go_wp2_with (first | (go_at_call 82; refine (hsp _).mono ?_; rintro e w' ⟨rfl, rfl⟩))
    go_ret
    exact ⟨rfl, rfl⟩
  · go_enter Tafg.func28, Tafg.ntmps28
    go_wp2_with (first | (go_at_call 82; refine (hsp _).mono ?_; rintro e w' ⟨rfl, rfl⟩))
    go_ret
    exact ⟨rfl, rfl⟩
  · go_enter Tafg.func28, Tafg.ntmps28
    go_wp2_with (first | (go_at_call 82; refine (hsp _).mono ?_; rintro e w' ⟨rfl, rfl⟩))
    go_ret
    exact ⟨rfl, rfl⟩
  · have hen := ends_any sm (by omega)
    have b1 : 0 ≤ highN sm 64 ∧ highN sm 64 < 64 := by have := ends_spec sm h4 (by omega); omega
    obtain ⟨b1, b2⟩ := b1
    clear h1 h4
    rw [if_neg (by simp)]
    generalize highN sm 64 = H at *
    generalize lowN sm 64 = L at *
    by_cases g1 : e0 ≤ se + H
    · have e1 : decide (e0 ≤ se + H) = true := by simpa using g1
      go_enter Tafg.func28, Tafg.ntmps28
      go_wp2_with (first | (go_at_call 82; refine (hsp _).mono ?_; rintro e w' ⟨rfl, rfl⟩) | (go_at_call 83; refine (hen _).mono ?_; rintro e w' ⟨rfl, rfl⟩))
      go_ret
      exact ⟨by simp [g1], rfl⟩
    · have e1 : decide (e0 ≤ se + H) = false := by simpa using g1
      go_enter Tafg.func28, Tafg.ntmps28
      go_wp2_with (first | (go_at_call 82; refine (hsp _).mono ?_; rintro e w' ⟨rfl, rfl⟩) | (go_at_call 83; refine (hen _).mono ?_; rintro e w' ⟨rfl, rfl⟩))
      go_ret
      exact ⟨by simp [g1], rfl⟩

/-- x less a near integer: exact. -/
theorem diff_exact {x : Nat} {r : Int} (hx : Num x) (hr : r.natAbs ≤ 2 ^ 53) (hle : (V x - (r : Rat)).abs ≤ (V x).abs) (h1 : (V x - (r : Rat)).abs < 2) :
    Num (fsub x (fint r)) ∧ V (fsub x (fint r)) = V x - (r : Rat) := by
  have hi := fint_rounded r hr
  have h4 : (V x - V (fint r)).abs < p2 1023 := by
    rw [hi.2]
    have : (2 : Rat) < p2 1023 := by decide +kernel
    grind
  have hs := sub_rounded hx hi.1.num h4
  rw [hi.2] at hs
  refine ⟨hs.num, ?_⟩
  obtain ⟨s, m, i, hrd⟩ := hx
  have hv : V x = sgn s * ((m : Rat) * p2 i) := by unfold V; rw [hrd]; rfl
  obtain ⟨d1, d2, d3⟩ := read_digits hrd
  have hva : (V x).abs = (m : Rat) * p2 i := by rw [hv, sgn_abs, Rat.abs_of_nonneg (Rat.mul_nonneg Rat.natCast_nonneg (p2_nonneg _))]
  rcases Int.lt_or_le i 0 with hneg | hpos
  · obtain ⟨k, hk⟩ : ∃ k : Nat, i = -(k : Int) := ⟨(-i).toNat, by omega⟩
    have hpp : ((2 ^ k : Nat) : Rat) * p2 i = 1 := by rw [p2_shift, hk, Int.add_left_neg, p2_zero]
    have e1 : V x - (r : Rat) = ((signed s m 0 - r * ((2 ^ k : Nat) : Int) : Int) : Rat) * p2 i := by
      rw [Rat.intCast_sub, Rat.intCast_mul, signed_cast, hv]
      have : (((2 ^ k : Nat) : Int) : Rat) = ((2 ^ k : Nat) : Rat) := rfl
      rw [this]
      have e0 : ((2 ^ 0 : Nat) : Rat) = 1 := rfl
      rw [e0]
      generalize ((2 ^ k : Nat) : Rat) = B at *
      generalize p2 i = c at *
      generalize (r : Rat) = R at *
      generalize sgn s = S at *
      generalize (m : Rat) = M at *
      have : (S * (M * 1) - R * B) * c = S * (M * c) - R * (B * c) := by grind
      rw [this, hpp]; grind
    refine hs.exact _ i d2 ?_ e1
    rw [e1, hva, abs_mul, Rat.abs_of_nonneg (p2_nonneg i)] at hle
    have h5 := Rat.le_of_mul_le_mul_right hle (p2_pos i)
    have := natAbs_le_of_abs h5
    omega
  · -- an integer
    obtain ⟨k, hk⟩ : ∃ k : Nat, i = (k : Int) := ⟨i.toNat, by omega⟩
    have e1 : V x - (r : Rat) = ((signed s m k - r : Int) : Rat) * p2 0 := by
      rw [Rat.intCast_sub, signed_cast, hv, p2_zero, Rat.mul_one, ← p2_nat, ← hk]
    refine hs.exact _ 0 (by decide) ?_ e1
    rw [e1, p2_zero, Rat.mul_one] at h1
    rw [natAbs_abs] at h1
    have : (((signed s m k - r).natAbs : Nat) : Rat) < ((2 : Nat) : Rat) := h1
    have := Rat.natCast_lt_natCast.1 this
    omega

theorem near_spec {x : Nat} (h : inB x = true) : ∃ r sure, nearF x = (r, sure) ∧ r.natAbs ≤ 2 ^ 52 + 1 ∧ (V x - (r : Rat)).abs ≤ 1/2 ∧
    ((V x - (r : Rat)).abs = 1/2 → (V x).abs < ((r : Rat)).abs) ∧ (sure = true ↔ (V x - (r : Rat)).abs ≤ 1/4) := by
  obtain ⟨hx, _, _⟩ := (inB_iff x).1 h
  obtain ⟨_, f1, f2, f3, f4, f5, f6⟩ := ftoi_spec hx
  have fs := ftoi_small h
  have e5 : p2 (-1) = 1/2 := by decide +kernel
  have e25 : p2 (-2) = 1/4 := by decide +kernel
  unfold nearF
  rw [if_pos h]
  dsimp only
  generalize hr : ftoi x = r at *
  have f1' : -1 < V x - (r : Rat) ∧ V x - (r : Rat) < 1 := by
    by_cases g : 0 ≤ V x - (r : Rat)
    · rw [Rat.abs_of_nonneg g] at f1; grind
    · rw [Rat.abs_of_nonpos (by grind)] at f1; grind
  have hd : (V x - (r : Rat)).abs ≤ (V x).abs := by
    by_cases g : 0 ≤ V x
    · have a := f3 g
      have b : (0 : Rat) ≤ (r : Rat) := by have := Rat.intCast_le_intCast.2 (f5 g); exact this
      rw [Rat.abs_of_nonneg g, Rat.abs_of_nonneg (by grind)]; grind
    · have a := f4 (by grind)
      have b : (r : Rat) ≤ (0 : Rat) := by have := Rat.intCast_le_intCast.2 (f6 (by grind)); exact this
      rw [Rat.abs_of_nonpos (by grind : V x ≤ 0), Rat.abs_of_nonpos (by grind)]; grind
  obtain ⟨k1, k2⟩ := diff_exact hx (show r.natAbs ≤ 2 ^ 53 by omega) hd (by grind)
  have hg : geB (fsub x (fint r)) 4602678819172646912 = true ↔ 1/2 ≤ V x - (r : Rat) := by rw [geB_iff k1 c05.1, c05.2, e5, k2]
  have hl : leB (fsub x (fint r)) 13826050856027422720 = true ↔ V x - (r : Rat) ≤ -(1/2) := by rw [leB_iff k1 n05.1, n05.2, e5, k2]
  have fin : ∀ q : Int, q.natAbs ≤ 2 ^ 53 → Num (fsub x (fint q)) ∧ V (fsub x (fint q)) = V x - (q : Rat) → (quarterB (fsub x (fint q)) = true ↔ (V x - (q : Rat)).abs ≤ 1/4) := by
    rintro q _ ⟨a1, a2⟩
    rw [quarterB_iff, a2, e25]
    exact ⟨fun h => h.2, fun h => ⟨a1, h⟩⟩
  by_cases g1 : 1/2 ≤ V x - (r : Rat)
  · have d1 : geB (fsub x (fint r)) 4602678819172646912 = true := hg.2 g1
    have d2 : leB (fsub x (fint r)) 13826050856027422720 = false := by rw [Bool.eq_false_iff]; intro hh; rw [hl] at hh; grind
    rw [d1, d2]
    simp only [Bool.false_eq_true, if_false, if_true]
    have hpos : 0 ≤ V x := by
      by_cases hn : 0 ≤ V x
      · exact hn
      · have := f4 (by grind)
        grind
    have hr0 : (0 : Rat) ≤ (r : Rat) := by have := Rat.intCast_le_intCast.2 (f5 hpos); exact this
    have ec : ((r + 1 : Int) : Rat) = (r : Rat) + 1 := by rw [Rat.intCast_add]; rfl
    have ab : (V x - ((r + 1 : Int) : Rat)).abs = 1 - (V x - (r : Rat)) := by rw [ec, Rat.abs_of_nonpos (by grind)]; grind
    refine ⟨r + 1, _, rfl, by omega, by rw [ab]; grind, ?_, ?_⟩
    · intro _
      rw [ec, Rat.abs_of_nonneg hpos, Rat.abs_of_nonneg (by grind)]; grind
    · refine fin (r + 1) (by omega) (diff_exact hx (by omega) ?_ ?_)
      · rw [ab, Rat.abs_of_nonneg hpos]; grind
      · rw [ab]; grind
  · have d1 : geB (fsub x (fint r)) 4602678819172646912 = false := by rw [Bool.eq_false_iff]; intro hh; exact g1 (hg.1 hh)
    by_cases g2 : V x - (r : Rat) ≤ -(1/2)
    · have d2 : leB (fsub x (fint r)) 13826050856027422720 = true := hl.2 g2
      rw [d1, d2]
      simp only [Bool.false_eq_true, if_false, if_true]
      have hneg : V x ≤ 0 := by
        by_cases hn : V x ≤ 0
        · exact hn
        · have := f3 (by grind)
          grind
      have hr0 : (r : Rat) ≤ (0 : Rat) := by have := Rat.intCast_le_intCast.2 (f6 hneg); exact this
      have ec : ((r - 1 : Int) : Rat) = (r : Rat) - 1 := by rw [Rat.intCast_sub]; rfl
      have ab : (V x - ((r - 1 : Int) : Rat)).abs = 1 + (V x - (r : Rat)) := by rw [ec, Rat.abs_of_nonneg (by grind)]; grind
      refine ⟨r - 1, _, rfl, by omega, by rw [ab]; grind, ?_, ?_⟩
      · intro _
        rw [ec, Rat.abs_of_nonpos hneg, Rat.abs_of_nonpos (by grind)]; grind
      · refine fin (r - 1) (by omega) (diff_exact hx (by omega) ?_ ?_)
        · rw [ab, Rat.abs_of_nonpos hneg]; grind
        · rw [ab]; grind
    · have d2 : leB (fsub x (fint r)) 13826050856027422720 = false := by rw [Bool.eq_false_iff]; intro hh; exact g2 (hl.1 hh)
      rw [d1, d2]
      simp only [Bool.false_eq_true, if_false]
      have ab : (V x - (r : Rat)).abs < 1/2 := by
        by_cases g : 0 ≤ V x - (r : Rat)
        · rw [Rat.abs_of_nonneg g]; grind
        · rw [Rat.abs_of_nonpos (by grind)]; grind
      exact ⟨r, _, rfl, by omega, by grind, fun h => by grind, fin r (by omega) ⟨k1, k2⟩⟩
end Go.Proofs.Ygctaf
