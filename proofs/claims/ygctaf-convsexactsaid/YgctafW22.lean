/-
  WALKS: law.notLess, law.larger, law.greatest
-/
import Derived.Test.YgctafExact3
namespace Go.Proofs.Ygctaf
open Go.RowKit Ieee
attribute [local go_sem] run_store_complex run_store_float CV_eq FV_eq

def absN (x : Nat) : Nat := x % 2 ^ 63
theorem absN_lt (x : Nat) : absN x < 2 ^ 64 := by unfold absN; omega
theorem fneg_ge {x : Nat} (hx : x < 2 ^ 64) (h : 2 ^ 63 ≤ x) : fneg x = x - 2 ^ 63 := by
  obtain ⟨y, rfl⟩ : ∃ y, x = 2 ^ 63 + y := ⟨x - 2 ^ 63, by omega⟩
  have hy : y < 2 ^ 63 := by omega
  have e : (2 ^ 63 + y) = 2 ^ 63 ||| y := by
    have := Nat.two_pow_add_eq_or_of_lt hy 1
    rw [Nat.mul_one] at this; exact this
  unfold fneg
  have : (2 ^ 63 + y) ^^^ 9223372036854775808 = y := by
    rw [e, show (9223372036854775808 : Nat) = 2 ^ 63 from rfl]
    apply Nat.eq_of_testBit_eq
    intro i
    simp only [Nat.testBit_xor, Nat.testBit_or, Nat.testBit_two_pow]
    by_cases hi : 63 = i
    · subst hi
      rw [Nat.testBit_lt_two_pow hy]; simp
    · simp [hi]
  rw [this]; omega
theorem absN_val {x : Nat} (hx : x < 2 ^ 64) (hn : Num x) : Num (absN x) ∧ V (absN x) = (V x).abs := by
  rcases split_cases x hx with ⟨_, h, _⟩ | ⟨_, h, _⟩ | ⟨_, _, hv, hr⟩ | ⟨m, e, _, _, hr, hm0, hm, h1, h2, hv⟩
  · exact absurd hn h
  · exact absurd hn h
  · by_cases hg : 2 ^ 63 ≤ x
    · have e : absN x = fneg x := by rw [fneg_ge hx hg]; unfold absN; omega
      rw [e]
      have := neg_num hx hn
      refine ⟨this.1, ?_⟩
      rw [this.2, hv, Rat.abs_zero]; grind
    · have e : absN x = x := by unfold absN; omega
      rw [e, hv]; exact ⟨hn, Rat.abs_zero.symm⟩
  · have hp : 0 ≤ (m : Rat) * p2 e := Rat.mul_nonneg Rat.natCast_nonneg (p2_nonneg _)
    by_cases hg : 2 ^ 63 ≤ x
    · have e1 : absN x = fneg x := by rw [fneg_ge hx hg]; unfold absN; omega
      have e2 : negN x = true := by unfold negN; simp; omega
      rw [e1]
      have := neg_num hx hn
      refine ⟨this.1, ?_⟩
      rw [this.2, hv, e2, sgn_true, Rat.abs_of_nonpos (by grind)]
    · have e1 : absN x = x := by unfold absN; omega
      have e2 : negN x = false := by unfold negN; simp; omega
      rw [e1]
      refine ⟨hn, ?_⟩
      rw [hv, e2, sgn_false, Rat.one_mul, Rat.abs_of_nonneg hp]

/-- The class and the parts of a number. -/
theorem split_parts {x : Nat} (hx : x < 2 ^ 64) (hn : Num x) :
    (splitF x = (negN x, 0, 0, 0) ∧ V x = 0) ∨ (∃ m e, splitF x = (negN x, m, e, 1) ∧ m ≠ 0 ∧ m < 2 ^ 53 ∧ (e = -1074 ∨ 2 ^ 52 ≤ m) ∧ -1074 ≤ e ∧ e ≤ 971 ∧ (V x).abs = (m : Rat) * p2 e) := by
  rcases split_cases x hx with ⟨_, h, _⟩ | ⟨_, h, _⟩ | ⟨hs, _, hv, hr⟩ | ⟨m, e, hs, _, hr, hm0, hm, h1, h2, hv⟩
  · exact absurd hn h
  · exact absurd hn h
  · exact .inl ⟨hs, hv⟩
  · refine .inr ⟨m, e, hs, hm0, hm, ?_, h1, h2, ?_⟩
    · unfold splitF at hs
      have a1 := congrArg (fun s => s.2.1) hs
      have a2 := congrArg (fun s => s.2.2.1) hs
      have a3 := congrArg (fun s => s.2.2.2) hs
      clear hs
      split at a3
      · split at a3 <;> simp at a3
      · rename_i g0
        rw [if_neg g0] at a1 a2
        split at a3
        · rename_i g1
          rw [if_pos g1] at a1
          right
          simp only at a1; omega
        · rename_i g1
          rw [if_neg g1] at a2
          split at a3
          · simp at a3
          · rename_i g2
            rw [if_neg g2] at a2
            left
            simp only at a2; omega
    · rw [hv, abs_mul, Rat.abs_of_nonneg (Rat.mul_nonneg Rat.natCast_nonneg (p2_nonneg e))]
      cases negN x
      · rw [sgn_false, Rat.abs_of_nonneg (by decide)]; grind
      · rw [sgn_true, Rat.abs_of_nonpos (by decide)]; grind

theorem parts_lt {m n : Nat} {e f : Int} (hn : n < 2 ^ 53) (hm : e = -1074 ∨ 2 ^ 52 ≤ m) (hf : -1074 ≤ f) (h : f < e) : (n : Rat) * p2 f < (m : Rat) * p2 e := by
  have h1 : 2 ^ 52 ≤ m := by rcases hm with rfl | hm; omega; exact hm
  have h2 : p2 (f + 1) ≤ p2 e := p2_le (by omega)
  rw [p2_succ] at h2
  have h3 := Rat.natCast_le_natCast.2 h1
  have h4 : (n : Rat) < ((2 ^ 53 : Nat) : Rat) := Rat.natCast_lt_natCast.2 hn
  have e1 : ((2 ^ 53 : Nat) : Rat) = ((2 ^ 52 : Nat) : Rat) * 2 := by decide +kernel
  have hp := p2_pos f
  have a1 := Rat.mul_lt_mul_of_pos_right h4 hp
  have a2 := Rat.mul_le_mul_of_nonneg_left h2 (show (0 : Rat) ≤ ((2 ^ 52 : Nat) : Rat) from Rat.natCast_nonneg)
  have a3 := Rat.mul_le_mul_of_nonneg_right h3 (p2_nonneg e)
  rw [e1] at a1
  generalize p2 f = P at *
  generalize p2 e = Q at *
  generalize ((2 ^ 52 : Nat) : Rat) = K at *
  grind
theorem parts_le {m n : Nat} {e : Int} : (n : Rat) * p2 e ≤ (m : Rat) * p2 e ↔ n ≤ m := by
  constructor
  · intro h
    have := Rat.le_of_mul_le_mul_right h (p2_pos e)
    exact Rat.natCast_le_natCast.1 this
  · intro h
    exact Rat.mul_le_mul_of_nonneg_right (Rat.natCast_le_natCast.2 h) (p2_nonneg e)

set_option maxHeartbeats 1000000 in
theorem notLess_any (x y : Nat) (hx : x < 2 ^ 64) (hy : y < 2 ^ 64) (nx : Num x) (ny : Num y) (w : World) :
    Calls Tafg.prog 117 #[.float .f64 x, .float .f64 y] w fun e w' => ∃ b, e = .returned (.bool b) ∧ w' = w ∧ (b = true ↔ (V y).abs ≤ (V x).abs) := by
  have h1 := split_any x hx
  have h2 := split_any y hy
  rcases split_parts hx nx with ⟨s1, v1⟩ | ⟨mx, ex, s1, m1, l1, k1, e1, f1, v1⟩
  · rcases split_parts hy ny with ⟨s2, v2⟩ | ⟨my, ey, s2, m2, l2, k2, e2, f2, v2⟩
    · rw [s1] at h1; rw [s2] at h2
      unfold splitV at h1 h2
      dsimp only at h1 h2
      clear s1 s2
      go_enter Tafg.func117, Tafg.ntmps117
      go_wp2_with fail
      refine same_mono (h1 _) ?_
      go_wp2_with fail
      refine same_mono (h2 _) ?_
      go_wp2
      go_ret
      refine ⟨_, rfl, rfl, ?_⟩
      rw [v1, v2]
      exact ⟨fun _ => Rat.le_refl, fun _ => rfl⟩
    · rw [s1] at h1; rw [s2] at h2
      unfold splitV at h1 h2
      dsimp only at h1 h2
      have q : (V y).abs ≤ (V x).abs ↔ False := by
        rw [v1, v2, Rat.abs_zero]
        refine ⟨fun h => ?_, False.elim⟩
        have a : (0 : Rat) < (my : Rat) := Rat.natCast_pos.2 (by omega)
        have := Rat.mul_pos a (p2_pos ey)
        grind
      have Q := hid q
      clear s1 s2 q v1 v2
      go_enter Tafg.func117, Tafg.ntmps117
      go_wp2_with fail
      refine same_mono (h1 _) ?_
      go_wp2_with fail
      refine same_mono (h2 _) ?_
      go_wp2
      go_ret
      refine ⟨_, rfl, rfl, ?_⟩
      rw [Q.out]; simp
  · rcases split_parts hy ny with ⟨s2, v2⟩ | ⟨my, ey, s2, m2, l2, k2, e2, f2, v2⟩
    · rw [s1] at h1; rw [s2] at h2
      unfold splitV at h1 h2
      dsimp only at h1 h2
      have Q := hid v2
      clear s1 s2 v1 v2
      go_enter Tafg.func117, Tafg.ntmps117
      go_wp2_with fail
      refine same_mono (h1 _) ?_
      go_wp2_with fail
      refine same_mono (h2 _) ?_
      go_wp2
      go_ret
      refine ⟨_, rfl, rfl, ?_⟩
      rw [Q.out, Rat.abs_zero]
      exact ⟨fun _ => Rat.abs_nonneg, fun _ => rfl⟩
    · rw [s1] at h1; rw [s2] at h2
      unfold splitV at h1 h2
      dsimp only at h1 h2
      have q : (V y).abs ≤ (V x).abs ↔ (ey < ex ∨ (ex = ey ∧ my ≤ mx)) := by
        rw [v1, v2]
        rcases Int.lt_trichotomy ex ey with h | h | h
        · have := parts_lt (m := my) (n := mx) l1 k2 e1 h
          constructor
          · intro h'; exfalso; grind
          · rintro (h' | ⟨h', _⟩) <;> omega
        · subst h
          rw [parts_le]
          constructor
          · intro h'; exact .inr ⟨rfl, h'⟩
          · rintro (h' | ⟨_, h'⟩)
            · omega
            · exact h'
        · have := parts_lt (m := mx) (n := my) l2 k1 e2 h
          constructor
          · intro _; exact .inl h
          · intro _; grind
      have Q := hid q
      clear s1 s2 q v1 v2 k1 k2
      by_cases g1 : ey < ex
      · have d1 : decide (ey < ex) = true := by simpa using g1
        go_enter Tafg.func117, Tafg.ntmps117
        go_wp2_with fail
        refine same_mono (h1 _) ?_
        go_wp2_with fail
        refine same_mono (h2 _) ?_
        go_wp2
        go_ret
        refine ⟨_, rfl, rfl, ?_⟩
        rw [Q.out]; simp [g1]
      · have d1 : decide (ey < ex) = false := by simpa using g1
        by_cases g2 : ex = ey
        · subst g2
          by_cases g3 : my ≤ mx
          · have d3 : (my : Int) ≤ (mx : Int) := by omega
            go_enter Tafg.func117, Tafg.ntmps117
            go_wp2_with fail
            refine same_mono (h1 _) ?_
            go_wp2_with fail
            refine same_mono (h2 _) ?_
            go_wp2
            go_ret
            refine ⟨_, rfl, rfl, ?_⟩
            rw [Q.out]; simp [g3]
          · have d3 : ¬ ((my : Int) ≤ (mx : Int)) := by omega
            go_enter Tafg.func117, Tafg.ntmps117
            go_wp2_with fail
            refine same_mono (h1 _) ?_
            go_wp2_with fail
            refine same_mono (h2 _) ?_
            go_wp2
            go_ret
            refine ⟨_, rfl, rfl, ?_⟩
            rw [Q.out]; simp [g3]
        · have d2 : (ex == ey) = false := by simpa using g2
          go_enter Tafg.func117, Tafg.ntmps117
          go_wp2_with fail
          refine same_mono (h1 _) ?_
          go_wp2_with fail
          refine same_mono (h2 _) ?_
          go_wp2
          go_ret
          refine ⟨_, rfl, rfl, ?_⟩
          rw [Q.out]; simp [g1, g2]

theorem larger_any (m v : Nat) (hm : m < 2 ^ 64) (hv : v < 2 ^ 64) (nm : Num m) (nv : Num v) (w : World) :
    Calls Tafg.prog 109 #[.float .f64 m, .float .f64 v] w fun e w' => ∃ r, e = .returned (.float .f64 r) ∧ w' = w ∧ r < 2 ^ 64 ∧ Num r ∧ (V m).abs ≤ (V r).abs ∧ (V v).abs ≤ (V r).abs ∧ (r = m ∨ r = absN v) := by
  have hb := b64_any v
  have hf := f64_any ((absN v : Nat) : Int)
  rw [Int.toNat_natCast] at hf
  have av := absN_val hv nv
  have hn := notLess_any (absN v) m (absN_lt v) hm av.1 nm
  have hand : bits .andNot .u64 (v : Int) 9223372036854775808 = ((absN v : Nat) : Int) := by
    have h := u64_andNot_nat v 9223372036854775808 hv (by decide)
    rw [show (18446744073709551615 - 9223372036854775808 : Nat) = 2 ^ 63 - 1 from rfl, Nat.and_two_pow_sub_one_eq_mod] at h
    exact h
  have ha : (V (absN v)).abs = (V v).abs := by rw [av.2, Rat.abs_of_nonneg Rat.abs_nonneg]
  have HA := hid ha
  have HV := hid av.1
  have HL := absN_lt v
  clear ha av
  generalize absN v = u at *
  go_enter Tafg.func109, Tafg.ntmps109
  go_wp2_with (first | (go_at_call 38; refine same_mono (hb _) ?_) | (go_at_call 26; refine same_mono (hf _) ?_) | fail)
  refine (hn _).mono ?_
  rintro e w' ⟨b, rfl, rfl, hb2⟩
  have HB := hid hb2
  clear hb2 hn
  cases b
  · go_wp2
    go_ret
    refine ⟨_, rfl, rfl, hm, nm, Rat.le_refl, ?_, .inl rfl⟩
    have : ¬ ((V m).abs ≤ (V u).abs) := fun h => by have := HB.out.2 h; cases this
    rw [HA.out] at this
    grind
  · go_wp2
    go_ret
    refine ⟨_, rfl, rfl, HL, HV.out, HB.out.1 (by simp), ?_, .inr rfl⟩
    rw [HA.out]; exact Rat.le_refl

/-- The greatest part among the first n. -/
structure Grt (n : Nat) (f : Nat → Nat × Nat) (m : Nat) : Prop where
  b : B1 35 m
  ge : 0 ≤ V m
  all : ∀ i, i < n → (V (f i).1).abs ≤ V m ∧ (V (f i).2).abs ≤ V m

set_option maxHeartbeats 1000000 in
theorem greatest_any (xb n xcap : Nat) (f : Nat → Nat × Nat) (w : World) (hb : n ≤ 2048) (hX : Own CV w xb n f) (hB : ∀ i, i < n → Bd 35 (f i)) :
    Calls Tafg.prog 72 #[.slice (some ⟨xb, 0, none⟩) n xcap] w fun e w' => ∃ m, e = .returned (.float .f64 m) ∧ w' = w ∧ Grt n f m := by
  have HX := hid hX
  have HB := hid hB
  clear hX hB
  go_enter Tafg.func72, Tafg.ntmps72
  go_wp2
  go_loop [3, 4] (fun s i => ∃ k m : Nat, k ≤ n ∧ i = .int .i64 (k : Int) ∧ s = .float .f64 m ∧ Grt k f m) (fun _ i => n - (intOf i).toNat)
  case atStart => exact ⟨0, 0, Nat.zero_le _, rfl, rfl, B1.zero 35, by rw [num_zero.2]; exact Rat.le_refl, fun i hi => by omega⟩
  case round =>
    obtain ⟨k, m, hk, rfl, rfl, hg⟩ := hrel
    have HG := hid hg
    clear hg
    by_cases hlt : k < n
    · have c1 := HX.out.cell hlt
      have bk := HB.out k hlt
      have BK := hid bk
      have l1 := larger_any m (f k).1 HG.out.b.lt bk.re.lt HG.out.b.num bk.re.num
      clear bk
      go_wp2_with fail
      refine (l1 _).mono ?_
      rintro e w' ⟨r, rfl, rfl, hr1, hr2, hr3, hr4, hr5⟩
      have l2 := larger_any r (f k).2 hr1 BK.out.im.lt hr2 BK.out.im.num
      have H1 := hid hr1
      have H2 := hid hr2
      have H3 := hid hr3
      have H4 := hid hr4
      have H5 := hid hr5
      clear hr1 hr2 hr3 hr4 hr5 l1
      go_wp2_with fail
      refine (l2 _).mono ?_
      rintro e w' ⟨t, rfl, rfl, ht1, ht2, ht3, ht4, ht5⟩
      have h1 := H1.out
      have h2 := H2.out
      have h3 := H3.out
      have h4 := H4.out
      have h5 := H5.out
      have g0 := HG.out.ge
      have gr : 0 ≤ V r ∧ (V r).abs ≤ p2 35 := by
        rcases h5 with rfl | rfl
        · exact ⟨g0, HG.out.b.le⟩
        · have := absN_val BK.out.re.lt BK.out.re.num
          rw [this.2, Rat.abs_of_nonneg Rat.abs_nonneg]
          exact ⟨Rat.abs_nonneg, BK.out.re.le⟩
      have gt : 0 ≤ V t ∧ (V t).abs ≤ p2 35 := by
        rcases ht5 with rfl | rfl
        · exact gr
        · have := absN_val BK.out.im.lt BK.out.im.num
          rw [this.2, Rat.abs_of_nonneg Rat.abs_nonneg]
          exact ⟨Rat.abs_nonneg, BK.out.im.le⟩
      rw [Rat.abs_of_nonneg gt.1] at ht3 ht4
      rw [Rat.abs_of_nonneg gr.1] at ht3 h3 h4
      rw [Rat.abs_of_nonneg g0] at h3
      have gn : Grt (k + 1) f t := ⟨⟨ht2, ht1, gt.2⟩, gt.1, fun i hi => by
        by_cases e : i = k
        · subst e
          exact ⟨Rat.le_trans h4 ht3, ht4⟩
        · have := HG.out.all i (by omega)
          exact ⟨Rat.le_trans this.1 (Rat.le_trans h3 ht3), Rat.le_trans this.2 (Rat.le_trans h3 ht3)⟩⟩
      have GN := hid gn
      clear gn gt gr ht1 ht2 ht3 ht4 ht5 h1 h2 h3 h4 h5 g0 l2 c1
      go_wp2
      go_round
      case rel => exact ⟨k + 1, t, by omega, by go_num, rfl, GN.out⟩
      case measure => simp [intOf]; omega
    · have e : k = n := by omega
      subst e
      go_wp2
      go_ret
      exact ⟨m, rfl, rfl, HG.out⟩
end Go.Proofs.Ygctaf
