/-
  law.NearestRight
-/
import Derived.Test.YgctafAcc7
import Derived.Test.YgctafNear2
import Derived.Test.YgctafOpen
namespace Go.Proofs.Ygctaf
open Ieee Go.RowKit

theorem inAcc_of {z : Int} {E : Nat} (hE : E = 3119) (h : z.natAbs ≤ 2 ^ 53 * 2 ^ E + 2 ^ 53 * 2 ^ E) : InAcc z := by
  have h1 : 2 ^ 53 * 2 ^ E + 2 ^ 53 * 2 ^ E = 2 ^ (54 + E) := by rw [Nat.pow_add, show 2 ^ 54 = 2 ^ 53 + 2 ^ 53 from rfl, Nat.add_mul]
  have h2a : ∀ F, F = 4351 → 2 ^ (54 + E) < 2 ^ F := fun F hF => Nat.pow_lt_pow_right (by decide) (by omega)
  have h2 := h2a 4351 rfl
  rw [h1] at h
  have h3 : z.natAbs < 2 ^ 4351 := Nat.lt_of_le_of_lt h h2
  have e : ((2 ^ 4351 : Nat) : Int) = (2 : Int) ^ 4351 := Int.natCast_pow 2 4351
  unfold InAcc
  rw [← e]
  generalize 2 ^ 4351 = B at *
  omega
theorem inAcc_FZ {x : Nat} (hx : x < 2 ^ 64) : InAcc (FZ x) := by
  obtain ⟨E, hE⟩ : ∃ E, E = 3119 := ⟨_, rfl⟩
  have := FZ_range hx E (by omega)
  exact inAcc_of hE (by omega)
theorem inAcc_sub {x y : Nat} (hx : x < 2 ^ 64) (hy : y < 2 ^ 64) : InAcc (FZ x - FZ y) := by
  obtain ⟨E, hE⟩ : ∃ E, E = 3119 := ⟨_, rfl⟩
  have a := FZ_range hx E (by omega)
  have b := FZ_range hy E (by omega)
  exact inAcc_of hE (by omega)
theorem inAcc_abs {z : Int} (h : InAcc z) (hz : z ≠ -(2 ^ 4351)) : InAcc (z.natAbs : Int) := by
  unfold InAcc at *
  generalize (2 : Int) ^ 4351 = B at *
  omega
theorem inAcc_absFZ {x : Nat} (hx : x < 2 ^ 64) : InAcc ((FZ x).natAbs : Int) := by
  obtain ⟨E, hE⟩ : ∃ E, E = 3119 := ⟨_, rfl⟩
  have := FZ_range hx E (by omega)
  exact inAcc_of hE (by omega)
theorem inAcc_absSub {x y : Nat} (hx : x < 2 ^ 64) (hy : y < 2 ^ 64) : InAcc ((FZ x - FZ y).natAbs : Int) := by
  obtain ⟨E, hE⟩ : ∃ E, E = 3119 := ⟨_, rfl⟩
  have a := FZ_range hx E (by omega)
  have b := FZ_range hy E (by omega)
  exact inAcc_of hE (by omega)

/-- Order of scaled numbers. -/
theorem cmp_scaled {a b : Int} {u v : Rat} (ha : (a : Rat) = u * p2 2148) (hb : (b : Rat) = v * p2 2148) : (a < b ↔ u < v) ∧ (a = b ↔ u = v) := by
  have hp := p2_pos 2148
  have h1 : a < b ↔ u < v := by
    rw [← Rat.intCast_lt_intCast, ha, hb]
    exact ⟨fun h => Rat.lt_of_mul_lt_mul_right h (Rat.le_of_lt hp), fun h => Rat.mul_lt_mul_of_pos_right h hp⟩
  have h2 : b < a ↔ v < u := by
    rw [← Rat.intCast_lt_intCast, ha, hb]
    exact ⟨fun h => Rat.lt_of_mul_lt_mul_right h (Rat.le_of_lt hp), fun h => Rat.mul_lt_mul_of_pos_right h hp⟩
  refine ⟨h1, ?_⟩
  constructor
  · intro e
    have n1 : ¬ u < v := fun h => by have := h1.2 h; omega
    have n2 : ¬ v < u := fun h => by have := h2.2 h; omega
    grind
  · intro e
    have n1 : ¬ a < b := fun h => by have := h1.1 h; grind
    have n2 : ¬ b < a := fun h => by have := h2.1 h; grind
    omega
theorem abs_val {z : Int} {u : Rat} (h : (z : Rat) = u * p2 2148) : (((z.natAbs : Nat) : Int) : Rat) = u.abs * p2 2148 := by
  have : (((z.natAbs : Nat) : Int) : Rat) = ((z.natAbs : Nat) : Rat) := rfl
  rw [this, ← natAbs_abs, h, abs_mul, Rat.abs_of_nonneg (p2_nonneg _)]

theorem nearestRight_out (v : Nat) (w : World) (hv : v < 2 ^ 64) (h : inB v = false) :
    Calls Tafg.prog 5 #[.int .u64 (v : Int)] w fun e w' => e = .returned (.bool true) ∧ Frm [] w w' := by
  have hf := f64_any (v : Int)
  rw [Int.toNat_natCast] at hf
  have hn := nearest_any v
  have e : nearF v = (0, false) := by unfold nearF; rw [h]; rfl
  rw [e] at hn
  have ham := atMost_any v hv 52
  have hal := atLeast_any v hv 52
  have hor : atMostB v 52 = false ∨ (atMostB v 52 = true ∧ atLeastB v 52 = true) := by
    cases ha : atMostB v 52
    · exact .inl rfl
    · refine .inr ⟨rfl, ?_⟩
      obtain ⟨n1, n2⟩ := (atMostB_iff v hv 52).1 ha
      rw [atLeastB_iff v hv]
      refine ⟨n1, ?_⟩
      by_cases g : p2 52 ≤ (V v).abs
      · exact g
      · exfalso
        have hb : inB v = true := by
          rw [inB_iff]
          have := abs_le.1 n2
          refine ⟨n1, ?_, ?_⟩
          · by_cases k : 0 ≤ V v
            · rw [Rat.abs_of_nonneg k] at g; grind
            · have := p2_pos 52; grind
          · by_cases k : 0 ≤ V v
            · have := p2_pos 52; grind
            · rw [Rat.abs_of_nonpos (by grind)] at g; grind
        rw [hb] at h; cases h
  rcases hor with h1 | ⟨h1, h2⟩
  · rw [h1] at ham
    clear h e hv
    go_enter Tafg.func5, Tafg.ntmps5
    go_wp2_with (first | (go_at_call 26; refine same_mono (hf _) ?_) | (go_at_call 24; refine same_mono (hn _) ?_) | (go_at_call 27; refine same_mono (ham _) ?_) | (go_at_call 28; refine same_mono (hal _) ?_))
    go_ret
    exact ⟨rfl, Frm.refl _ _⟩
  · rw [h1] at ham
    rw [h2] at hal
    clear h e hv
    go_enter Tafg.func5, Tafg.ntmps5
    go_wp2_with (first | (go_at_call 26; refine same_mono (hf _) ?_) | (go_at_call 24; refine same_mono (hn _) ?_) | (go_at_call 27; refine same_mono (ham _) ?_) | (go_at_call 28; refine same_mono (hal _) ?_))
    go_ret
    exact ⟨rfl, Frm.refl _ _⟩

set_option maxRecDepth 20000 in
set_option maxHeartbeats 2000000 in
theorem nearestRight_in (v : Nat) (w : World) (hv : v < 2 ^ 64) (h : inB v = true) :
    Calls Tafg.prog 5 #[.int .u64 (v : Int)] w fun e w' => e = .returned (.bool true) ∧ Frm [] w w' := by
  have hz := (zero_of_info Tafg.info31).1
  have hf := f64_any (v : Int)
  rw [Int.toNat_natCast] at hf
  have hn := nearest_any v
  obtain ⟨r, sure, e, hr, n1, n2, n3⟩ := near_spec h
  rw [e] at hn
  have hnum := ((inB_iff v).1 h).1
  have ham := atMost_any v hv 52
  have hal := atLeast_any v hv 52
  have hin := (inB_iff v).1 h
  have ea : atMostB v 52 = true := by rw [atMostB_iff v hv]; exact ⟨hnum, abs_le.2 ⟨by grind, by grind⟩⟩
  have eb : atLeastB v 52 = false := by
    rw [Bool.eq_false_iff]
    intro hh
    have := ((atLeastB_iff v hv 52).1 hh).2
    by_cases g : 0 ≤ V v
    · rw [Rat.abs_of_nonneg g] at this; grind
    · rw [Rat.abs_of_nonpos (by grind)] at this; grind
  rw [ea] at ham
  rw [eb] at hal
  have hfi := floatOfInt_eq
  have hri := fint_rounded r (by omega)
  have hrl : fint r < 2 ^ 64 := hri.1.lt
  have d1 : decide (r < -9007199254740992) = false := by simp; omega
  have d2 : decide ((9007199254740992 : Int) < r) = false := by simp; omega
  -- the numbers
  have vX := FZ_val hv hnum
  have vR := FZ_val hrl hri.1.num
  rw [hri.2] at vR
  have iX := inAcc_absFZ hv
  have iR := inAcc_absFZ hrl
  have iD := inAcc_sub hv hrl
  have iO := inAcc_absSub hv hrl
  have jX := inAcc_FZ hv
  have jR := inAcc_FZ hrl
  have cH : Num 4602678819172646912 ∧ V 4602678819172646912 = p2 (-1) := c05
  have cQ : Num 4598175219545276416 ∧ V 4598175219545276416 = p2 (-2) := c025
  have vH := FZ_val (x := 4602678819172646912) (by decide) cH.1
  have vQ := FZ_val (x := 4598175219545276416) (by decide) cQ.1
  rw [cH.2] at vH
  rw [cQ.2] at vQ
  have iH := inAcc_FZ (x := 4602678819172646912) (by decide)
  have iQ := inAcc_FZ (x := 4598175219545276416) (by decide)
  have vO : ((((FZ v - FZ (fint r)).natAbs : Nat) : Int) : Rat) = (V v - (r : Rat)).abs * p2 2148 := abs_val (by rw [Rat.intCast_sub, vX, vR]; grind)
  have vXa := abs_val vX
  have vRa := abs_val vR
  have cOH := cmp_scaled vO vH
  have cOQ := cmp_scaled vO vQ
  have cQO := cmp_scaled vQ vO
  have cXR := cmp_scaled vXa vRa
  have e5 : p2 (-1) = 1/2 := by decide +kernel
  have e25 : p2 (-2) = 1/4 := by decide +kernel
  rw [e5] at cOH
  rw [e25] at cOQ cQO
  have aX := fun w => accOf_any v w hv hnum
  have aR := fun w => accOf_any (fint r) w hrl hri.1.num
  have aH := fun w => accOf_any 4602678819172646912 w (by decide) cH.1
  have aQ := fun w => accOf_any 4598175219545276416 w (by decide) cQ.1
  have aG := fun w => gap_any (FZ v) (FZ (fint r)) w iD
  clear vX vR vH vQ vO vXa vRa cH cQ hri hin ea eb e h
  generalize FZ v = X at *
  generalize FZ (fint r) = R at *
  generalize FZ 4602678819172646912 = Hf at *
  generalize FZ 4598175219545276416 = Qf at *
  have HcOH := hid cOH
  have HcOQ := hid cOQ
  have HcQO := hid cQO
  have HcXR := hid cXR
  have HN1 := hid n1
  have HN2 := hid n2
  have HN3 := hid n3
  clear cOH cOQ cQO cXR n1 n2 n3 hv hnum hrl
  go_enter Tafg.func5, Tafg.ntmps5
  go_wp2_with (first | (go_at_call 26; refine same_mono (hf _) ?_) | (go_at_call 24; refine same_mono (hn _) ?_) | (go_at_call 27; refine same_mono (ham _) ?_) | (go_at_call 28; refine same_mono (hal _) ?_) | fail)
  refine (aX _).mono ?_
  rintro e w1 ⟨rfl, f1⟩
  go_wp2_with fail
  refine (aR _).mono ?_
  rintro e w2 ⟨rfl, f2⟩
  go_wp2_with fail
  refine (aG _).mono ?_
  rintro e w3 ⟨rfl, f3⟩
  go_wp2_with fail
  refine (aX _).mono ?_
  rintro e w4 ⟨rfl, f4⟩
  go_wp2_with fail
  refine (aR _).mono ?_
  rintro e w5 ⟨rfl, f5⟩
  have g5 : Frm [] w w5 := (((f1.trans f2).trans f3).trans f4).trans f5
  clear f1 f2 f3 f4 f5
  dsimp only
  iterate 10 go_step
  generalize hW : ((w5.alloc (.cells Z68 31)).alloc (.cells Z68 31)).alloc (.cells Z68 31) = W
  have q6 : Arr W w5.heap.size 0 (dg 0) := by rw [← hW]; exact ((arr_new w5).alloc _).alloc _
  have q7 : Arr W (w5.heap.size + 1) 0 (dg 0) := by
    have := arr_new (w5.alloc (.cells Z68 31))
    rw [show (w5.alloc (.cells Z68 31)).heap.size = w5.heap.size + 1 from by simp] at this
    rw [← hW]; exact this.alloc _
  have q8 : Arr W (w5.heap.size + 1 + 1) 0 (dg 0) := by
    have := arr_new ((w5.alloc (.cells Z68 31)).alloc (.cells Z68 31))
    rw [show ((w5.alloc (.cells Z68 31)).alloc (.cells Z68 31)).heap.size = w5.heap.size + 1 + 1 from by simp] at this
    rw [← hW]; exact this
  have gW : Frm [] w W := by rw [← hW]; exact ((g5.alloc _).alloc _).alloc _
  have hs5 := g5.size
  clear hW g5
  generalize w5.heap.size = B at *
  refine wpList_store_mid rfl 31 _ _ rfl B 0 (digsL ((X - R).natAbs : Int)).toArray rfl rfl (q6.there2 _) (size31A _) (digsL_one _) ?_
  have o1 := only_setCells W B 0 ((X - R).natAbs : Int)
  have r6 := arr_setCells q6 ((X - R).natAbs : Int)
  have r7 := o1.arr q7 (.inl (by omega))
  have r8 := o1.arr q8 (.inl (by omega))
  have gW1 := gW.seq (U := []) o1.frm (by simp) (by simp; omega)
  generalize hW1 : W.setCells B 0 (digsL ((X - R).natAbs : Int)) = W1 at *
  clear hW1 o1 q6 q7 q8 gW
  refine wpList_store_mid rfl 31 _ _ rfl (B + 1) 0 (digsL X).toArray rfl rfl (r7.there2 _) (size31A _) (digsL_one _) ?_
  have o1 := only_setCells W1 (B + 1) 0 X
  have q7 := arr_setCells r7 X
  have q6 := o1.arr r6 (.inl (by omega))
  have q8 := o1.arr r8 (.inl (by omega))
  have gW2 := gW1.seq (U := []) o1.frm (by simp) (by simp; omega)
  generalize hW2 : W1.setCells (B + 1) 0 (digsL X) = W2 at *
  clear hW2 o1 r6 r7 r8 gW1
  refine wpList_store_mid rfl 31 _ _ rfl (B + 1 + 1) 0 (digsL R).toArray rfl rfl (q8.there2 _) (size31A _) (digsL_one _) ?_
  have o1 := only_setCells W2 (B + 1 + 1) 0 R
  have r8 := arr_setCells q8 R
  have r6 := o1.arr q6 (.inl (by omega))
  have r7 := o1.arr q7 (.inl (by omega))
  have gW3 := gW2.seq (U := []) o1.frm (by simp) (by simp; omega)
  generalize hW3 : W2.setCells (B + 1 + 1) 0 (digsL R) = W3 at *
  clear hW3 o1 q6 q7 q8 gW2
  go_wp2_with fail
  refine (aH _).mono ?_
  rintro e w6 ⟨rfl, f6⟩
  go_wp2_with fail
  refine (aQ _).mono ?_
  rintro e w7 ⟨rfl, f7⟩
  have f67 := f6.trans f7
  have q6 := r6.frame f67 (by simp)
  have q7 := r7.frame f67 (by simp)
  have q8 := r8.frame f67 (by simp)
  have g7 := gW3.trans f67
  clear r6 r7 r8 gW3 f6 f7 f67
  dsimp only
  iterate 7 go_step
  generalize hW : (w7.alloc (.cells Z68 31)).alloc (.cells Z68 31) = W4
  have p6 : Arr W4 B 0 (dg ((X - R).natAbs : Int)) := by rw [← hW]; exact (q6.alloc _).alloc _
  have p7 : Arr W4 (B + 1) 0 (dg X) := by rw [← hW]; exact (q7.alloc _).alloc _
  have p8 : Arr W4 (B + 1 + 1) 0 (dg R) := by rw [← hW]; exact (q8.alloc _).alloc _
  have p9 : Arr W4 w7.heap.size 0 (dg 0) := by rw [← hW]; exact (arr_new w7).alloc _
  have p10 : Arr W4 (w7.heap.size + 1) 0 (dg 0) := by
    have := arr_new (w7.alloc (.cells Z68 31))
    rw [show (w7.alloc (.cells Z68 31)).heap.size = w7.heap.size + 1 from by simp] at this
    rw [← hW]; exact this
  have gW4 : Frm [] w W4 := by rw [← hW]; exact (g7.alloc _).alloc _
  have hs7 := g7.size
  have hb8 := q8.1
  clear hW g7 q6 q7 q8
  generalize w7.heap.size = C at *
  refine wpList_store_mid rfl 31 _ _ rfl C 0 (digsL Hf).toArray rfl rfl (p9.there2 _) (size31A _) (digsL_one _) ?_
  have o1 := only_setCells W4 C 0 Hf
  have r9 := arr_setCells p9 Hf
  have r6 := o1.arr p6 (.inl (by omega))
  have r7 := o1.arr p7 (.inl (by omega))
  have r8 := o1.arr p8 (.inl (by omega))
  have r10 := o1.arr p10 (.inl (by omega))
  have gW5 := gW4.seq (U := []) o1.frm (by simp) (by simp; omega)
  generalize hW5 : W4.setCells C 0 (digsL Hf) = W5 at *
  clear hW5 o1 p6 p7 p8 p9 p10 gW4
  refine wpList_store_mid rfl 31 _ _ rfl (C + 1) 0 (digsL Qf).toArray rfl rfl (r10.there2 _) (size31A _) (digsL_one _) ?_
  have o1 := only_setCells W5 (C + 1) 0 Qf
  have p10 := arr_setCells r10 Qf
  have p6 := o1.arr r6 (.inl (by omega))
  have p7 := o1.arr r7 (.inl (by omega))
  have p8 := o1.arr r8 (.inl (by omega))
  have p9 := o1.arr r9 (.inl (by omega))
  have gW6 := gW5.seq (U := []) o1.frm (by simp) (by simp; omega)
  generalize hW6 : W5.setCells (C + 1) 0 (digsL Qf) = W6 at *
  clear hW6 o1 r6 r7 r8 r9 r10 gW5
  go_wp2_with fail
  refine (abs_any (B + 1) 0 X W6 jX p7).mono ?_
  rintro e w8 ⟨rfl, r7, o1⟩
  have r6 := o1.arr p6 (.inl (by omega))
  have r8 := o1.arr p8 (.inl (by omega))
  have r9 := o1.arr p9 (.inl (by omega))
  have r10 := o1.arr p10 (.inl (by omega))
  have g8 := gW6.seq (U := []) o1.frm (by simp) (by simp; omega)
  clear o1 p6 p7 p8 p9 p10 gW6
  go_wp2_with fail
  refine (abs_any (B + 1 + 1) 0 R w8 jR r8).mono ?_
  rintro e w9 ⟨rfl, p8, o1⟩
  have p6 := o1.arr r6 (.inl (by omega))
  have p7 := o1.arr r7 (.inl (by omega))
  have p9 := o1.arr r9 (.inl (by omega))
  have p10 := o1.arr r10 (.inl (by omega))
  have g9 := g8.seq (U := []) o1.frm (by simp) (by simp; omega)
  clear o1 r6 r7 r8 r9 r10 g8
  go_wp2_with fail
  refine (cmp_any B 0 C 0 ((X - R).natAbs : Int) Hf w9 iO iH p6 p9).mono ?_
  rintro e w10 ⟨rfl, f10, hs10⟩
  have r6 := p6.frame f10 (by simp)
  have r7 := p7.frame f10 (by simp)
  have r8 := p8.frame f10 (by simp)
  have r10 := p10.frame f10 (by simp)
  have g10 := g9.trans f10
  clear p6 p7 p8 p9 p10 g9 f10 hs10
  by_cases hlt : (V v - (r : Rat)).abs < 1/2
  · have e1 : cmpZ ((X - R).natAbs : Int) Hf = -1 := by unfold cmpZ; rw [if_pos (HcOH.out.1.2 hlt)]
    rw [e1]
    clear e1
    have e2 : (sure == decide (cmpZ ((X - R).natAbs : Int) Qf ≤ 0)) = true := by
      have a1 : cmpZ ((X - R).natAbs : Int) Qf ≤ 0 ↔ (V v - (r : Rat)).abs ≤ 1/4 := by
        unfold cmpZ
        have c1 := HcOQ.out.1
        have c2 := HcOQ.out.2
        constructor
        · intro hh
          by_cases g1 : (((X - R).natAbs : Nat) : Int) < Qf
          · have := c1.1 g1; grind
          · rw [if_neg g1] at hh
            by_cases g2 : (((X - R).natAbs : Nat) : Int) = Qf
            · have := c2.1 g2; grind
            · rw [if_neg g2] at hh; omega
        · intro hh
          by_cases g1 : (V v - (r : Rat)).abs < 1/4
          · rw [if_pos (c1.2 g1)]; decide
          · have : (V v - (r : Rat)).abs = 1/4 := by grind
            rw [if_neg (fun h => g1 (c1.1 h)), if_pos (c2.2 this)]; decide
      have a2 := HN3.out
      cases hs : sure
      · rw [hs] at a2
        have : ¬ (cmpZ ((X - R).natAbs : Int) Qf ≤ 0) := fun h => by have := a2.2 (a1.1 h); cases this
        simp [this]
      · rw [hs] at a2
        have : cmpZ ((X - R).natAbs : Int) Qf ≤ 0 := a1.2 (a2.1 rfl)
        simp [this]
    have HE2 := hid e2
    clear e2 hlt
    go_wp2_with fail
    refine (cmp_any B 0 (C + 1) 0 ((X - R).natAbs : Int) Qf w10 iO iQ r6 r10).mono ?_
    rintro e w11 ⟨rfl, f11, hs11⟩
    go_wp2
    go_ret
    exact ⟨congrArg (fun b => Ending.returned (.bool b)) HE2.out, g10.trans f11⟩
  · have heq : (V v - (r : Rat)).abs = 1/2 := by have := HN1.out; grind
    have e1 : cmpZ ((X - R).natAbs : Int) Hf = 0 := by unfold cmpZ; rw [if_neg (fun h => hlt (HcOH.out.1.1 h)), if_pos (HcOH.out.2.2 heq)]
    rw [e1]
    clear e1
    have hXR := HcXR.out.1.2 (HN2.out heq)
    have e2 : cmpZ (R.natAbs : Int) (X.natAbs : Int) = 1 := by unfold cmpZ; rw [if_neg (by omega), if_neg (by omega)]
    have e3 : sure = false := by
      cases hs : sure
      · rfl
      · have := HN3.out.1 hs; grind
    subst e3
    have HE2 := hid e2
    clear e2 hlt heq hXR
    go_wp2_with fail
    refine (cmp_any (B + 1 + 1) 0 (B + 1) 0 (R.natAbs : Int) (X.natAbs : Int) w10 iR iX r8 r7).mono ?_
    rintro e w11 ⟨rfl, f11, hs11⟩
    rw [HE2.out]
    go_wp2
    go_ret
    exact ⟨rfl, g10.trans f11⟩

theorem nearestRight_any (v : Nat) (w : World) (hv : v < 2 ^ 64) :
    Calls Tafg.prog 5 #[.int .u64 (v : Int)] w fun e w' => e = .returned (.bool true) ∧ Frm [] w w' := by
  cases h : inB v
  · exact nearestRight_out v w hv h
  · exact nearestRight_in v w hv h
theorem nearestRight_int (a : Int) (w : World) (h0 : 0 ≤ a) (h1 : a < 18446744073709551616) :
    Calls Tafg.prog 5 #[.int .u64 a] w fun e w' => e = .returned (.bool true) ∧ Frm [] w w' := by
  obtain ⟨v, rfl⟩ := Int.eq_ofNat_of_zero_le h0
  exact nearestRight_any v w (by omega)
end Go.Proofs.Ygctaf
