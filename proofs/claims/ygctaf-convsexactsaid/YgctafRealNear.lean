/-
  law.RealNear
-/
import Derived.Test.YgctafRealLaw
namespace Go.Proofs.Ygctaf
open Go.RowKit Ieee
attribute [local go_sem] run_store_complex run_store_float CV_eq FV_eq

theorem frm_set {a b : World} {c : Nat} {L : List Value} (h : Frm [] a b) (hc : a.heap.size ≤ c) : Frm [] a (b.setCells c 0 L) := h.seq (frm_setCells c L 0 b).1 (by simp) (by simp; omega)
theorem frm_there {a b : World} (h : Frm [] a b) : ∀ c, a.there c 0 68 → b.there c 0 68 := fun c hc j hj => by
  obtain ⟨h1, h2⟩ := hc j hj
  obtain ⟨u, hu⟩ := Option.isSome_iff_exists.1 h1
  have hl := World.block_lt_of_cell? a ⟨c, 0 + j, none⟩ hu
  rw [h.cell (p := ⟨c, 0 + j, none⟩) hl (by simp), h.frozen (p := ⟨c, 0 + j, none⟩) hl (by simp)]
  exact ⟨h1, h2⟩
theorem arr_there {w : World} {c : Nat} (z : Int) (h : w.there c 0 68) : Arr (w.setCells c 0 (digsL z)) c 0 (dg z) := by
  have hl : c < w.heap.size := by
    obtain ⟨u, hu⟩ := Option.isSome_iff_exists.1 (h 0 (by decide)).1
    exact World.block_lt_of_cell? w ⟨c, 0 + 0, none⟩ hu
  have hr := World.rangeAt_setCells_same w c 0 (digsL z) (by rw [digsL_len]; exact h)
  refine ⟨by rw [(frm_setCells c _ 0 w).2]; exact hl, fun i hi => ⟨hr i _ (digsL_at z i hi), by rw [World.frozen?_setCells]; exact (h i hi).2⟩⟩
theorem frm_back {a b c : World} (k : Frm [] b c) (h : Frm [] a b) : Frm [] a c := h.trans k
/-- The reals as points. -/
def rpF (f : Nat → Nat) : Nat → Nat × Nat := fun i => (f i, 0)
theorem cv_rp (f : Nat → Nat) (i : Nat) : cv (rpF f i) = rxC f i := Cx.eq rfl num_zero.2

theorem zx_len {n m mm : Nat} {f : Nat → Nat} (hnm : n = 2 * m) (hG : Grt n (rpF f) mm) (j : Nat) (hj : j < m) : Len (zxC f j) (lenM (V mm)) :=
  len_of_parts (z := zF f j) (hG.all (2 * j) (by omega)).1 (hG.all (2 * j + 1) (by omega)).1
theorem rx_len {n mm : Nat} {f : Nat → Nat} (hG : Grt n (rpF f) mm) (i : Nat) (hi : i < n) : Len (rxC f i) (lenM (V mm)) := by
  have := hG.len i hi
  rw [cv_rp] at this; exact this
theorem real_got {q m n mm : Nat} {f : Nat → Nat} (hk : q + 1 ≤ 11) (hm : m = 2 ^ q) (hnm : n = 2 * m) (hB : ∀ i, i < n → Bd 35 (rpF f i)) (hG : Grt n (rpF f) mm) (kk : Nat) (hkk : kk ≤ m) :
    Ap 109 (frO (q + 1) m (tabF (q + 1)) f kk) (dft (zeK (q + 1)) (2 * m) (rxC f) kk) (2 * ((m : Rat) * lenM (V mm))) 202 :=
  fr_near (e := 35) (by omega) hk hm hkk (by decide) (by decide) (lenM_ge hG.ge) (fun i hi => (hB i (by omega)).re) (zx_len hnm hG)
theorem real_law1 {q m n mm : Nat} {f : Nat → Nat} {B : Int} (hk : q + 1 ≤ 11) (hm : m = 2 ^ q) (hn : n = 2 ^ (q + 1)) (hnm : n = 2 * m) (hB : ∀ i, i < n → Bd 35 (rpF f i)) (hG : Grt n (rpF f) mm) (vB : (B : Rat) = bndV (q + 1) (V mm) * p2 2148) (j : Nat) (hj : j ≤ m) :
    OffOk B (exR (rpF f) (wJ false m (tabF (q + 1)) n j) n + FZ (fneg (frO (q + 1) m (tabF (q + 1)) f j).1)) ∧ OffOk B (exI (rpF f) (wJ false m (tabF (q + 1)) n j) n + FZ (fneg (frO (q + 1) m (tabF (q + 1)) f j).2)) := by
  have hm0 : 0 < m := by rw [hm]; exact Nat.two_pow_pos _
  have ap := real_got hk hm hnm hB hG j hj
  refine near_law false (by omega) hk hm hnm (by omega) hG.ge hG.le (fun i hi => (hB i hi).nm) hG.len ap.bd.nm vB ?_
  have e0 : (fun i => cv (rpF f i)) = rxC f := by funext i; exact cv_rp f i
  have e1 : Cx.scale (if false = true then p2 ((q + 1 : Nat) : Int) else 1) (cv (frO (q + 1) m (tabF (q + 1)) f j)) = cv (frO (q + 1) m (tabF (q + 1)) f j) := Cx.eq (by show 1 * _ = _; rw [Rat.one_mul]) (by show 1 * _ = _; rw [Rat.one_mul])
  rw [e0, e1]
  have a := ap.near
  rw [← hnm] at a
  refine Len.mono a ?_
  have hp : 2 * ((m : Rat) * lenM (V mm)) = p2 ((q + 1 : Nat) : Int) * lenM (V mm) := by
    rw [p2_nat, ← hn, hnm, Rat.natCast_mul, show ((2 : Nat) : Rat) = 2 from rfl]; grind
  rw [hp]
  have c3 : 202 * EE ≤ p2 (-42) := by unfold EE; decide +kernel
  have := Rat.mul_le_mul_of_nonneg_right c3 (Rat.mul_nonneg (p2_nonneg ((q + 1 : Nat) : Int)) (Rat.le_trans (p2_nonneg _) (lenM_ge hG.ge)))
  grind
theorem real_law2 {q m n mm : Nat} {f : Nat → Nat} {B : Int} (hk : q + 1 ≤ 11) (hm : m = 2 ^ q) (hnm : n = 2 * m) (hB : ∀ i, i < n → Bd 35 (rpF f i)) (hG : Grt n (rpF f) mm) (vB : (B : Rat) = bndV (q + 1) (V mm) * p2 2148) (i : Nat) (hi : i < n) :
    B1 184 (irO (q + 1) m (tabF (q + 1)) (frO (q + 1) m (tabF (q + 1)) f) i) ∧ OffOk (B * 2 ^ 1) (FZ (irO (q + 1) m (tabF (q + 1)) (frO (q + 1) m (tabF (q + 1)) f) i) - FZ (f i)) ∧ InAcc (B * 2 ^ 1) := by
  have hr := ir_near (e := 109) (c := 202) (by omega) hk hm (by decide) (by decide) (by decide +kernel) (lenM_ge hG.ge) (zx_len hnm hG) (fun i hi => rx_len hG i (by omega)) (real_got hk hm hnm hB hG) (i / 2) (by omega)
  obtain ⟨hb, hl⟩ := hr
  have hparts := hl.parts
  have hb1 : B1 184 (irO (q + 1) m (tabF (q + 1)) (frO (q + 1) m (tabF (q + 1)) f) i) ∧ (V (irO (q + 1) m (tabF (q + 1)) (frO (q + 1) m (tabF (q + 1)) f) i) - V (f i)).abs ≤ p2 (-41) * ((m : Rat) * lenM (V mm)) := by
    unfold irO flatF
    split
    · rename_i h
      have : 2 * (i / 2) = i := by omega
      have h1 := hparts.1
      refine ⟨hb.re, ?_⟩
      have e1 : (zxC f (i / 2)).re = V (f i) := by show V (f (2 * (i / 2))) = _; rw [this]
      have h2 : (V (invF (q + 1 - 1) (fun j => tabF (q + 1) (2 * j)) (riZ m (tabF (q + 1)) (frO (q + 1) m (tabF (q + 1)) f)) (i / 2)).1 - (zxC f (i / 2)).re).abs ≤ p2 (-41) * ((m : Rat) * lenM (V mm)) := h1
      rw [e1] at h2; exact h2
    · rename_i h
      have : 2 * (i / 2) + 1 = i := by omega
      have h1 := hparts.2
      refine ⟨hb.im, ?_⟩
      have e1 : (zxC f (i / 2)).im = V (f i) := by show V (f (2 * (i / 2) + 1)) = _; rw [this]
      have h2 : (V (invF (q + 1 - 1) (fun j => tabF (q + 1) (2 * j)) (riZ m (tabF (q + 1)) (frO (q + 1) m (tabF (q + 1)) f)) (i / 2)).2 - (zxC f (i / 2)).im).abs ≤ p2 (-41) * ((m : Rat) * lenM (V mm)) := h1
      rw [e1] at h2; exact h2
  have hbf : B1 35 (f i) := (hB i hi).re
  refine ⟨hb1.1, ?_⟩
  have v2 : ((B * 2 ^ 1 : Int) : Rat) = (2 * bndV (q + 1) (V mm)) * p2 2148 := by
    rw [Rat.intCast_mul, vB, show ((2 ^ 1 : Int) : Rat) = 2 from by decide +kernel]; grind
  have b0 := bnd_ge (q + 1) hG.ge
  have b1 : 2 * bndV (q + 1) (V mm) ≤ p2 100 := by
    unfold bndV
    have c1 : p2 (((q + 1 : Nat) : Int) - 40) ≤ p2 0 := p2_le (by omega)
    rw [p2_zero] at c1
    have c2 := Rat.mul_le_mul_of_nonneg_left c1 hG.ge
    have c3 : 2 * (p2 35 + p2 (-1000)) ≤ p2 100 := by decide +kernel
    have c4 := hG.le
    generalize p2 (-1000) = d at *
    grind
  have hmr : (m : Rat) = p2 (q : Int) := by rw [p2_nat, hm]
  refine ⟨off_of (u := V (irO (q + 1) m (tabF (q + 1)) (frO (q + 1) m (tabF (q + 1)) f) i) - V (f i)) ?_ v2 (Rat.le_trans hb1.2 ?_) b1, ?_⟩
  · rw [Rat.intCast_sub, FZ_val hb1.1.lt hb1.1.num, FZ_val hbf.lt hbf.num]; grind
  · unfold bndV lenM
    rw [hmr, show (((q + 1 : Nat) : Int) - 40) = (q : Int) + -39 from by omega, p2_add]
    have c2 : p2 (q : Int) ≤ p2 11 := p2_le (by omega)
    have c3 : p2 (-41) * (p2 11 * p2 (-1015)) ≤ 2 * p2 (-1000) := by decide +kernel
    have c5 := Rat.mul_le_mul_of_nonneg_right c2 (p2_nonneg (-1015))
    have c6 := Rat.mul_le_mul_of_nonneg_left c5 (p2_nonneg (-41))
    have c7 : p2 (-39) = 4 * p2 (-41) := by decide +kernel
    have c8 := Rat.mul_nonneg (p2_nonneg (-41)) (Rat.mul_nonneg (p2_nonneg (q : Int)) hG.ge)
    rw [c7]
    generalize p2 (q : Int) = Q at *
    generalize p2 (-41) = a at *
    generalize p2 (-1015) = b at *
    generalize p2 (-1000) = d at *
    generalize p2 11 = E at *
    grind
  · refine (inAcc_small ?_).1
    rw [v2, abs_mul, Rat.abs_of_nonneg (by grind), Rat.abs_of_nonneg (p2_nonneg _)]
    have := Rat.mul_le_mul_of_nonneg_right b1 (p2_nonneg 2148)
    rw [← p2_add] at this
    exact Rat.le_trans this (p2_le (by decide))

set_option maxRecDepth 20000 in
set_option maxHeartbeats 4000000 in
theorem realNear_any (a : Option Addr) (len cap : Nat) (zs : Nat → Int) (w : World) (hlen : len * 8 ≤ 140737488351232) (hcap : len ≤ cap) (hr : InRow .u64 w a len zs) (h64 : ∀ i, i < len → 0 ≤ zs i ∧ zs i < 18446744073709551616) :
    Calls Tafg.prog 10 #[.slice a len cap] w fun e w' => e = .returned (.bool true) ∧ Frm [] w w' := by
  have hz := (zero_of_info Tafg.info31).1
  have hz72 := (zero_of_info Tafg.info72).1
  have HR := hid hr
  have H64 := hid h64
  clear hr h64
  go_enter Tafg.func10, Tafg.ntmps10
  go_wp2_with fail
  refine (cut_full len w).mono ?_
  rintro e w' ⟨kk, rfl, rfl, hkk, h1, h2⟩
  by_cases hk0 : kk ≤ 1
  · have d1 : (kk : Int) - 1 < 1 := by omega
    clear h1 h2
    go_wp2
    go_ret
    exact ⟨rfl, Frm.refl _ _⟩
  · obtain ⟨q, rfl⟩ : ∃ q, kk = q + 2 := ⟨kk - 2, by omega⟩
    have e1 : ((q + 2 : Nat) : Int) - 1 = (q : Int) + 1 := by omega
    rw [e1]
    have hle : 2 ^ (q + 1) ≤ len := by
      rcases h1 with h1 | h1
      · omega
      · exact h1
    obtain ⟨n, hn⟩ : ∃ n, n = 2 ^ (q + 1) := ⟨_, rfl⟩
    obtain ⟨m, hm⟩ : ∃ m, m = 2 ^ q := ⟨_, rfl⟩
    have hnm : n = 2 * m := by rw [hn, hm, Nat.pow_succ, Nat.mul_comm]
    have hk : q + 1 ≤ 11 := by omega
    have hm0 : 0 < m := by rw [hm]; exact Nat.two_pow_pos _
    have hmb : m ≤ 1024 := by rw [hm]; exact Nat.pow_le_pow_right (n := 2) (by decide) (show q ≤ 10 by omega)
    rw [← hn] at hle
    have ws := wrap_at (j := q + 1) (by omega) hn
    have HN := hid hn
    have HM := hid hm
    have HNM := hid hnm
    have HO : Hid (TabOk (q + 1) m) := hid ⟨by omega, hk, hm⟩
    have hnb : n ≤ 2048 := by omega
    have hn0 : 0 < n := by omega
    obtain ⟨b, off, rfl, hbs, hrd⟩ : ∃ b off, a = some ⟨b, off, none⟩ ∧ b < w'.heap.size ∧ Rd (Value.int .u64) w' b off len zs := by
      rcases HR.out with h | h
      · omega
      · exact h
    have HFL := hid (floats_body b off len cap n zs w' hbs hle hcap (by omega) hlen hrd)
    have d1 : decide ((q : Int) + 1 < 1) = false := by simp; omega
    clear h1 h2 e1 hn hm hnm HR hrd hkk hk0
    have hmk := make_c n (by omega)
    have lt64 : ∀ i, i < n → fltF zs i < 2 ^ 64 := fun i hi => by have := H64.out i (by omega); unfold fltF; omega
    have HLT := hid lt64
    clear lt64
    go_wp2_with fail
    refine Calls.mono HFL.out ?_
    rintro e w1 ⟨rfl, hF, f1⟩
    obtain ⟨f, hf⟩ : ∃ f, f = fltF zs := ⟨_, rfl⟩
    rw [← hf] at hF HLT
    have HF := hid hF
    have HF1 := hid f1
    have hfs := hF.1
    have hs01 := f1.size
    have wsq := ws (q + 1) rfl
    clear hF f1 HFL hf
    go_wp2
    clear ws wsq hmk
    go_loopw [6] (fun i wr => ∃ j : Nat, j ≤ n ∧ i = .int .i64 j ∧ Own CV wr w1.heap.size n (fun i => if i < j then rpF f i else (0, 0)) ∧ Frm [] w1 wr) (fun i _ => n - (intOf i).toNat)
    case atStart => exact ⟨0, Nat.zero_le _, rfl, by simpa using Own.madeC, (Frm.refl _ _).alloc _⟩
    case round =>
      obtain ⟨j, hj, rfl, hown, hfr⟩ := hrel
      by_cases hlt : j < n
      · have c1 := (HF.out.frame hfr (by simp)).cell hlt
        have c3 := hown.cell hlt
        have c4 := hown.free hlt
        have HST := hid (hown.step (f := rpF f) hlt rfl)
        have HFR := hid hfr
        clear hown hfr
        go_wp2
        go_roundw
        case rel => exact ⟨j + 1, hlt, by go_num, HST.out, HFR.out.setCell (.inr (Nat.le_refl _)) _⟩
        case measure => simp [intOf]; omega
      · have hX := hown.full (f := rpF f) (by omega)
        have hf2 := hfr
        have hF2 := HF.out.frame hf2 (by simp)
        have hf02 := HF1.out.trans hf2
        have hxs := hX.1
        have HX := hid hX
        have HF2 := hid hF2
        have HF02 := hid hf02
        have hs12 := hf2.size
        clear hown hfr hX hf2 hF2 hf02 HF HF1
        go_wp2_with fail
        refine (partsAtMost_any w1.heap.size n n (rpF f) wr hnb HX.out (fun i hi => ⟨HLT.out i hi, (by decide : (0 : Nat) < 2 ^ 64)⟩)).mono ?_
        rintro e w2 (⟨rfl, rfl⟩ | ⟨rfl, rfl, hBd⟩)
        · go_wp2
          go_ret
          exact ⟨rfl, HF02.out⟩
        · have HB := hid hBd
          clear hBd HLT H64
          go_wp2_with fail
          refine (table_any q m (by omega) HM.out _).mono ?_
          rintro e w3 ⟨rfl, hT, fT⟩
          have HT := hid hT
          have HX3 := hid (HX.out.frame fT (by simp))
          have HF3 := hid (HF2.out.frame fT (by simp))
          have HF03 := hid (HF02.out.trans fT)
          have hsT := fT.size
          have hTs := hT.1
          clear hT fT HX HF2 HF02
          go_wp2_with fail
          refine (nearBound_any w1.heap.size n n (q + 1) (rpF f) w3 hk HN.out HX3.out HB.out).mono ?_
          rintro e w4 ⟨mm, B, rfl, f4, hG, vB⟩
          have q0 := arr_new w4
          have f5 : Frm [] w' (w4.alloc (.cells Z68 31)) := (HF03.out.trans f4).alloc _
          have f5' : Frm [] w3 (w4.alloc (.cells Z68 31)) := f4.alloc _
          have x5 := HX3.out.frame f5' (by simp)
          have r5 := HF3.out.frame f5' (by simp)
          have t5 := HT.out.frame f5' (by simp)
          have hs34 := f4.size
          dsimp only
          iterate 7 go_step
          generalize w4.alloc (.cells Z68 31) = W at *
          generalize hA : w4.heap.size = A at *
          refine wpList_store_mid rfl 31 _ _ rfl A 0 (digsL B).toArray rfl rfl (q0.there2 _) (size31A _) (digsL_one _) ?_
          have o1 := only_setCells W A 0 B
          have q1 := arr_setCells q0 B
          have x6 := x5.frame o1.frm (by simp; omega)
          have r6 := r5.frame o1.frm (by simp; omega)
          have t6 := t5.frame o1.frm (by simp; omega)
          have f6 := f5.seq (U := []) o1.frm (by simp) (by simp; omega)
          generalize W.setCells A 0 (digsL B) = W1 at *
          have HG := hid hG
          have HVB := hid vB
          have HQ1 := hid q1
          have HX6 := hid x6
          have HR6 := hid r6
          have HT6 := hid t6
          have HF6 := hid f6
          have hqs := q1.1
          clear o1 q0 x5 r5 t5 f5 f5' q1 x6 r6 t6 f6 vB hG f4 hA HX3 HF3 HF03 HT
          have HTB := hid (tabF_bd q (by omega))
          rw [← HM.out] at HTB
          go_wp2_with fail
          refine (forwardReal_any w'.heap.size n n w2.heap.size m m (q + 1) 35 (tabF (q + 1)) f W1 (by omega) hk HM.out HNM.out (by decide) (by decide) HT6.out HR6.out HTB.out (fun i hi => (HB.out i hi).re)).mono ?_
          rintro e w5 ⟨gb, rfl, hgb, hGo, f7⟩
          have HX7 := hid (HX6.out.frame f7 (by simp))
          have HR7 := hid (HR6.out.frame f7 (by simp))
          have HT7 := hid (HT6.out.frame f7 (by simp))
          have HQ7 := hid (HQ1.out.frame f7 (by simp))
          have HF7 := hid (HF6.out.trans f7)
          have HGO := hid hGo
          have hs57 := f7.size
          have hgs := hGo.1
          clear hGo f7 HX6 HR6 HT6 HQ1 HF6
          go_wp2_with fail
          refine (inverseReal_any gb (m + 1) w2.heap.size m m (q + 1) n 109 (tabF (q + 1)) (frO (q + 1) m (tabF (q + 1)) f) w5 (by omega) hk HM.out HNM.out (by decide) (by decide) HT7.out HGO.out HTB.out (fun i hi => (real_got hk HM.out HNM.out HB.out HG.out i (by omega)).bd)).mono ?_
          rintro e w6 ⟨kb, rfl, hkb, hBk, f8⟩
          have HX8 := hid (HX7.out.frame f8 (by simp))
          have HR8 := hid (HR7.out.frame f8 (by simp))
          have HT8 := hid (HT7.out.frame f8 (by simp))
          have HQ8 := hid (HQ7.out.frame f8 (by simp))
          have HGO8 := hid (HGO.out.frame f8 (by simp))
          have HF8 := hid (HF7.out.trans f8)
          have HBK := hid hBk
          have hs68 := f8.size
          have hks := hBk.1
          have hl1 := fun j hj => real_law1 hk HM.out HN.out HNM.out HB.out HG.out HVB.out j hj
          have hl2 := fun i hi => real_law2 hk HM.out HNM.out HB.out HG.out HVB.out i hi
          have hnmG : ∀ i, i < m + 1 → Nm (frO (q + 1) m (tabF (q + 1)) f i) := fun i hi => (real_got hk HM.out HNM.out HB.out HG.out i (by omega)).bd.nm
          have HL1 := hid hl1
          have HL2 := hid hl2
          have HNMG := hid hnmG
          have hIB := bnd_in hk HG.out.ge HG.out.le HVB.out
          clear hBk f8 HX7 HR7 HT7 HQ7 HGO HF7 hl1 hl2 hnmG
          generalize frO (q + 1) m (tabF (q + 1)) f = gG at *
          generalize irO (q + 1) m (tabF (q + 1)) gG = kG at *
          have dn : (n : Int) / 2 = (m : Int) := by have := HNM.out; omega
          have dn2 : (n : Int).tdiv 2 = (m : Int) := by rw [Int.tdiv_eq_ediv_of_nonneg (by omega)]; have := HNM.out; omega
          go_wp2
          clear dn dn2
          have hmn : 0 < m := hm0
          go_loopw [2, 11, 12] (fun _ i _ wr => ∃ j : Nat, j ≤ m + 1 ∧ i = .int .i64 (j : Int) ∧ Frm [] w6 wr) (fun _ i _ _ => m + 1 - (intOf i).toNat)
          case atStart => exact ⟨0, Nat.zero_le _, rfl, Frm.refl _ _⟩
          case round =>
            obtain ⟨jg, hjg, rfl, hf⟩ := hrel
            by_cases hjl : jg < m + 1
            · have djl : (jg : Int) < (m : Int) + 1 := by omega
              have ng := HNMG.out jg hjl
              have hfin := finiteC_any (gG jg) ng.l1 ng.n1 ng.l2 ng.n2
              have hex := exactDFT_any false w1.heap.size n n w2.heap.size m m jg (rpF f) (tabF (q + 1)) wr HNM.out hm0 hmb (by have := HNM.out; omega) (HX8.out.frame hf (by simp)) (HT8.out.frame hf (by simp)) (fun i hi => (HB.out i hi).nm) (fun i hi => (HTB.out i hi).nm)
              have hll := HL1.out jg (by omega)
              obtain ⟨X, hXe⟩ : ∃ X, X = exR (rpF f) (wJ false m (tabF (q + 1)) n jg) n := ⟨_, rfl⟩
              obtain ⟨Y, hYe⟩ : ∃ Y, Y = exI (rpF f) (wJ false m (tabF (q + 1)) n jg) n := ⟨_, rfl⟩
              rw [← hXe, ← hYe] at hex
              rw [← hXe, ← hYe] at hll
              have HEX := hid hex
              have HF := hid hf
              have HLL := hid hll
              have Hng := hid ng
              have HFIN := hid hfin
              clear hex hf hll ng hfin hXe hYe
              go_wp2_with fail
              refine Calls.mono HEX.out ?_
              rintro e w7 ⟨rfl, f1⟩
              have g1 := HF.out.trans f1
              clear HEX HF f1
              dsimp only
              iterate 4 go_step
              have q0 := cacc_new w7
              have gW : Frm [] w6 (w7.alloc (.cells Z136 72)) := g1.alloc _
              have hsg := g1.size
              generalize w7.alloc (.cells Z136 72) = WW at *
              generalize w7.heap.size = AA at *
              refine wpList_store_mid rfl 72 _ _ rfl AA 0 (digs2 X Y).toArray rfl rfl (q0.there2 _ _) (size72A _ _) (digs2_one _ _) ?_
              have q1 := cacc_setCells q0 X Y
              have gW1 := gW.seq (U := []) (frm_setCells AA (digs2 X Y) 0 WW).1 (by simp) (by simp; omega)
              generalize WW.setCells AA 0 (digs2 X Y) = WX at *
              clear q0 gW g1
              have cg := (HGO8.out.frame gW1 (by simp)).cell hjl
              have HQQ := hid q1
              have HGW := hid gW1
              clear q1 gW1
              go_wp2_with fail
              refine (caccSub_any AA 0 (gG jg) X Y WX Hng.out.l1 Hng.out.n1 Hng.out.l2 Hng.out.n2 HQQ.out).mono ?_
              rintro e w8 ⟨rfl, z1, ob2⟩
              have g2 := HGW.out.seq (U := []) ob2.1 (by simp) (by simp; omega)
              have hb3 := HQ8.out.frame g2 (by simp)
              have cg := (HGO8.out.frame g2 (by simp)).cell hjl
              have HZ1 := hid z1
              have HG2 := hid g2
              have HB3 := hid hb3
              clear z1 ob2 g2 hb3 HQQ HGW
              go_wp2_with fail
              refine same_mono (HFIN.out _) ?_
              go_wp2_with fail
              refine (within_any AA 0 A 0 _ _ B w8 HLL.out.1.i HLL.out.1.a HLL.out.2.i HLL.out.2.a hIB HZ1.out HB3.out HLL.out.1.le HLL.out.2.le).mono ?_
              rintro e w9 ⟨rfl, f9⟩
              have HF9 := hid (HG2.out.trans f9)
              clear f9 HG2 HZ1 HB3 cg
              go_wp2
              go_roundw
              case rel => exact ⟨jg + 1, by omega, by go_num, HF9.out⟩
              case measure => simp [intOf]; omega
            · have djl : ¬ ((jg : Int) < (m : Int) + 1) := by omega
              have hqq := HQ8.out.frame hf (by simp)
              have HF := hid hf
              have HQQ := hid hqq
              clear hf hqq
              go_wp2_with fail
              refine (shl_any A 0 1 B wr (by decide) HQQ.out).mono ?_
              rintro e w7 ⟨rfl, hq2, on⟩
              have g7 := HF.out.seq (U := [A]) on.frm (by simp) (by simp)
              have HR9 := hid (HR8.out.frame g7 (by simp; omega))
              have HK9 := hid (HBK.out.frame g7 (by simp; omega))
              have HF9 := hid (HF8.out.seq (U := []) g7 (by simp) (by simp; omega))
              have HQ9 := hid hq2
              have hqs9 := hq2.1
              have hks9 := HK9.out.1
              clear hq2 on g7 HQQ HF HL1 HX8 HT8 HGO8 HQ8 HR8 HBK HF8
              go_wp2
              go_loopw [2, 13, 14] (fun _ i _ wl => ∃ j : Nat, j ≤ n ∧ i = .int .i64 (j : Int) ∧ Frm [] w7 wl) (fun _ i _ _ => n - (intOf i).toNat)
              case atStart => exact ⟨0, Nat.zero_le _, rfl, Frm.refl _ _⟩
              case round =>
                obtain ⟨ii, hii, rfl, hf⟩ := hrel
                by_cases hil : ii < n
                · have dil : (ii : Int) < (n : Int) := by omega
                  have hK := HK9.out.frame hf (by simp)
                  have hR := HR9.out.frame hf (by simp)
                  have hQ := HQ9.out.frame hf (by simp)
                  obtain ⟨bk, law, inB⟩ := HL2.out ii hil
                  have bfi : B1 35 (f ii) := (HB.out ii hil).re
                  have i1 : (0 : Int) ≤ (ii : Int) := by omega
                  have aK := fun w => accOf_any (kG ii) w bk.lt bk.num
                  have aF := fun w => accOf_any (f ii) w bfi.lt bfi.num
                  have aG := fun w => gap_any (FZ (kG ii)) (FZ (f ii)) w law.i
                  have hkeep : ∀ w2, Frm [] wr w2 → Frm [] wr w2 ∧ w2.cell? ⟨kb, ii, none⟩ = some (FV (kG ii)) ∧ w2.cell? ⟨w'.heap.size, ii, none⟩ = some (FV (f ii)) := fun w2 h => ⟨h, (hK.frame h (by simp)).cell hil, (hR.frame h (by simp)).cell hil⟩
                  have hcK := hK.cell hil
                  have hcR := hR.cell hil
                  have hfin := finite_any (kG ii) bk.lt bk.num
                  have HKP := hid hkeep
                  have HK2 := hid hK
                  have HQ2 := hid hQ
                  have HF2 := hid hf
                  have HLAW := hid law
                  have HINB := hid inB
                  clear hkeep hK hR hQ hf law inB bk bfi
                  generalize FZ (kG ii) = P at *
                  generalize FZ (f ii) = Q at *
                  generalize kG ii = vk at *
                  generalize f ii = vf at *
                  have hlen68 : ∀ z, (digsL z).length = 68 := digsL_len
                  have hthere : ∀ w2 : World, (w2.alloc (.cells Z68 31)).there w2.heap.size 0 68 := fun w2 => (arr_new w2).there
                  have hone : ∀ v ∈ digsL (((P - Q).natAbs : Nat) : Int), v.oneCell' = true := fun v hv => by
                    unfold digsL at hv
                    rw [List.mem_map] at hv
                    obtain ⟨i, _, rfl⟩ := hv
                    rfl
                  have hi31 : (Tafg.prog.info? 31).map (·.size) = some 68 := Tafg.size31
                  have hd0 : wr.drew.heap.size = wr.heap.size := rfl
                  go_wp2
                  have hthere2 : (wr.alloc (.cells Z68 31)).drew.there wr.heap.size 0 68 := hthere wr
                  go_region_held3 (fun w2 => Frm [] wr w2 ∧ w2.cell? ⟨kb, ii, none⟩ = some (Value.float .f64 vk) ∧ w2.cell? ⟨w'.heap.size, ii, none⟩ = some (Value.float .f64 vf)) ((go_split_ands; exact HKP.out _ (by first | with_reducible exact Frm.drew (Frm.refl _ _) | with_reducible exact Frm.drew (Frm.alloc (Frm.refl _ _) _) | with_reducible exact frm_back (by assumption) (by assumption) | with_reducible exact Frm.alloc (by assumption) _ | with_reducible exact frm_set (by assumption) (by omega))))
                    (first | (go_at_call 30; with_reducible refine (aK _).mono ?_; rintro e wA ⟨rfl, fA⟩; have sA := fA.size; have tA := frm_there fA) | (go_at_call 30; with_reducible refine (aF _).mono ?_; rintro e wB ⟨rfl, fB⟩; have sB := fB.size; have tB := frm_there fB) | (go_at_call 29; with_reducible refine (aG _).mono ?_; rintro e wC ⟨rfl, fC⟩; have sC := fC.size; have tC := frm_there fC; try have tCB := fun c h => tC c (tB c h)))
                  · have hfE : Frm [] wr ((wC.alloc (Obj.cells Z68 31)).setCells wC.heap.size 0 (digsL (((P - Q).natAbs : Nat) : Int))) := by go_split_ands; assumption
                    have aE := arr_there ((P - Q).natAbs : Int) (hthere wC)
                    generalize hWE : (wC.alloc (Obj.cells Z68 31)).setCells wC.heap.size 0 (digsL (((P - Q).natAbs : Nat) : Int)) = WE at *
                    have hcE : wr.heap.size ≤ wC.heap.size := by omega
                    generalize wC.heap.size = cE at *
                    have HFE := hid hfE
                    have HAE := hid aE
                    have ck := (HK2.out.frame hfE (by simp)).cell hil
                    have hq := HQ2.out.frame hfE (by simp)
                    have HQE := hid hq
                    clear hfE aE hq hWE
                    go_wp2_with fail
                    refine same_mono (hfin _) ?_
                    dsimp only
                    iterate 7 go_step
                    refine wpList_step (fun K hK => ?_)
                    split
                    · refine wp_load_mid 31 _ rfl cE 0 rfl (digsL (((P - Q).natAbs : Nat) : Int)) _ HAE.out.range Tafg.underlying31 rfl (size31L _) (hK _ _ ?_)
                      clear hK
                      have c2 := small_any A 0 (((P - Q).natAbs : Nat) : Int) (B * 2 ^ 1) WE HLAW.out.a HLAW.out.a HINB.out HQE.out
                      rw [show decide ((((((P - Q).natAbs : Nat) : Int).natAbs : Nat) : Int) ≤ B * 2 ^ 1) = true from by
                        have := HLAW.out.le
                        simpa using this] at c2
                      have HC2 := hid c2
                      clear c2
                      go_wp2_with fail
                      refine Calls.mono HC2.out ?_
                      rintro e wF ⟨rfl, fF⟩
                      have HFF := hid (HF2.out.trans (HFE.out.trans fF))
                      clear fF HC2
                      go_wp2
                      go_roundw
                      case rel => exact ⟨ii + 1, by omega, by go_num, HFF.out⟩
                      case measure => simp [intOf]; omega
                    · rename_i hw
                      exact absurd rfl hw
                  · have hfE : Frm [] wr (wC.setCells wB.heap.size 0 (digsL (((P - Q).natAbs : Nat) : Int))) := by go_split_ands; assumption
                    have aE := arr_there ((P - Q).natAbs : Int) (tC _ (hthere wB))
                    generalize hWE : wC.setCells wB.heap.size 0 (digsL (((P - Q).natAbs : Nat) : Int)) = WE at *
                    have hcE : wr.heap.size ≤ wB.heap.size := by omega
                    generalize wB.heap.size = cE at *
                    have HFE := hid hfE
                    have HAE := hid aE
                    have ck := (HK2.out.frame hfE (by simp)).cell hil
                    have hq := HQ2.out.frame hfE (by simp)
                    have HQE := hid hq
                    clear hfE aE hq hWE
                    go_wp2_with fail
                    refine same_mono (hfin _) ?_
                    dsimp only
                    iterate 7 go_step
                    refine wpList_step (fun K hK => ?_)
                    split
                    · refine wp_load_mid 31 _ rfl cE 0 rfl (digsL (((P - Q).natAbs : Nat) : Int)) _ HAE.out.range Tafg.underlying31 rfl (size31L _) (hK _ _ ?_)
                      clear hK
                      have c2 := small_any A 0 (((P - Q).natAbs : Nat) : Int) (B * 2 ^ 1) WE HLAW.out.a HLAW.out.a HINB.out HQE.out
                      rw [show decide ((((((P - Q).natAbs : Nat) : Int).natAbs : Nat) : Int) ≤ B * 2 ^ 1) = true from by
                        have := HLAW.out.le
                        simpa using this] at c2
                      have HC2 := hid c2
                      clear c2
                      go_wp2_with fail
                      refine Calls.mono HC2.out ?_
                      rintro e wF ⟨rfl, fF⟩
                      have HFF := hid (HF2.out.trans (HFE.out.trans fF))
                      clear fF HC2
                      go_wp2
                      go_roundw
                      case rel => exact ⟨ii + 1, by omega, by go_num, HFF.out⟩
                      case measure => simp [intOf]; omega
                    · rename_i hw
                      exact absurd rfl hw
                  · have hfE : Frm [] wr (wC.setCells wA.heap.size 0 (digsL (((P - Q).natAbs : Nat) : Int))) := by go_split_ands; assumption
                    have aE := arr_there ((P - Q).natAbs : Int) (tC _ (tB _ (hthere wA)))
                    generalize hWE : wC.setCells wA.heap.size 0 (digsL (((P - Q).natAbs : Nat) : Int)) = WE at *
                    have hcE : wr.heap.size ≤ wA.heap.size := by omega
                    generalize wA.heap.size = cE at *
                    have HFE := hid hfE
                    have HAE := hid aE
                    have ck := (HK2.out.frame hfE (by simp)).cell hil
                    have hq := HQ2.out.frame hfE (by simp)
                    have HQE := hid hq
                    clear hfE aE hq hWE
                    go_wp2_with fail
                    refine same_mono (hfin _) ?_
                    dsimp only
                    iterate 7 go_step
                    refine wpList_step (fun K hK => ?_)
                    split
                    · refine wp_load_mid 31 _ rfl cE 0 rfl (digsL (((P - Q).natAbs : Nat) : Int)) _ HAE.out.range Tafg.underlying31 rfl (size31L _) (hK _ _ ?_)
                      clear hK
                      have c2 := small_any A 0 (((P - Q).natAbs : Nat) : Int) (B * 2 ^ 1) WE HLAW.out.a HLAW.out.a HINB.out HQE.out
                      rw [show decide ((((((P - Q).natAbs : Nat) : Int).natAbs : Nat) : Int) ≤ B * 2 ^ 1) = true from by
                        have := HLAW.out.le
                        simpa using this] at c2
                      have HC2 := hid c2
                      clear c2
                      go_wp2_with fail
                      refine Calls.mono HC2.out ?_
                      rintro e wF ⟨rfl, fF⟩
                      have HFF := hid (HF2.out.trans (HFE.out.trans fF))
                      clear fF HC2
                      go_wp2
                      go_roundw
                      case rel => exact ⟨ii + 1, by omega, by go_num, HFF.out⟩
                      case measure => simp [intOf]; omega
                    · rename_i hw
                      exact absurd rfl hw
                  · have hfE : Frm [] wr (wC.setCells wr.heap.size 0 (digsL (((P - Q).natAbs : Nat) : Int))) := by go_split_ands; assumption
                    have aE := arr_there ((P - Q).natAbs : Int) (tC _ (tB _ (tA _ hthere2)))
                    generalize hWE : wC.setCells wr.heap.size 0 (digsL (((P - Q).natAbs : Nat) : Int)) = WE at *
                    have hcE : wr.heap.size ≤ wr.heap.size := by omega
                    generalize wr.heap.size = cE at *
                    have HFE := hid hfE
                    have HAE := hid aE
                    have ck := (HK2.out.frame hfE (by simp)).cell hil
                    have hq := HQ2.out.frame hfE (by simp)
                    have HQE := hid hq
                    clear hfE aE hq hWE
                    go_wp2_with fail
                    refine same_mono (hfin _) ?_
                    dsimp only
                    iterate 7 go_step
                    refine wpList_step (fun K hK => ?_)
                    split
                    · refine wp_load_mid 31 _ rfl cE 0 rfl (digsL (((P - Q).natAbs : Nat) : Int)) _ HAE.out.range Tafg.underlying31 rfl (size31L _) (hK _ _ ?_)
                      clear hK
                      have c2 := small_any A 0 (((P - Q).natAbs : Nat) : Int) (B * 2 ^ 1) WE HLAW.out.a HLAW.out.a HINB.out HQE.out
                      rw [show decide ((((((P - Q).natAbs : Nat) : Int).natAbs : Nat) : Int) ≤ B * 2 ^ 1) = true from by
                        have := HLAW.out.le
                        simpa using this] at c2
                      have HC2 := hid c2
                      clear c2
                      go_wp2_with fail
                      refine Calls.mono HC2.out ?_
                      rintro e wF ⟨rfl, fF⟩
                      have HFF := hid (HF2.out.trans (HFE.out.trans fF))
                      clear fF HC2
                      go_wp2
                      go_roundw
                      case rel => exact ⟨ii + 1, by omega, by go_num, HFF.out⟩
                      case measure => simp [intOf]; omega
                    · rename_i hw
                      exact absurd rfl hw
                · have dil : ¬ ((ii : Int) < (n : Int)) := by omega
                  have HFF := hid (HF9.out.trans hf)
                  clear hf
                  go_wp2
                  go_ret
                  exact ⟨rfl, HFF.out⟩
end Go.Proofs.Ygctaf
