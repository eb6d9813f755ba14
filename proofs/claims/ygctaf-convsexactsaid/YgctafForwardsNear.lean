/-
  law.ForwardsNear
-/
import Derived.Test.YgctafW28
import Derived.Test.YgctafInverseNear
namespace Go.Proofs.Ygctaf
open Go.RowKit Ieee
attribute [local go_sem] run_store_complex run_store_float CV_eq FV_eq

theorem own_rev0 {w : World} {b : Nat} {f : Nat → Nat × Nat} (h : Own CV w b 1 (fun a => f (revN 0 a))) : Own CV w b 1 f := h.congr fun i hi => by
  have : i = 0 := by omega
  subst this; rfl
set_option maxHeartbeats 1000000 in
theorem forward4_one1 (b cap tcap : Nat) (ta : Option Addr) (f : Nat → Nat × Nat) (w : World) (hf0 : Own CV w b 1 f) :
    Calls Tafg.prog 44 #[.slice (some ⟨b, 0, none⟩) 1 cap, .slice ta 0 tcap] w fun e w' =>
      e = .returned (.bool true) ∧ Own CV w' b 1 f ∧ Frm [b] w w' ∧ w'.heap.size = w.heap.size := by
  have hl := levelx_pow 0 1 (by decide) rfl
  have hfit := fitsx_one
  have HREV := hid (reverse_any b 1 cap 0 f w (by decide) rfl hf0)
  clear hf0
  simp only [Int.natCast_one, Int.natCast_zero] at hl
  go_enter Tafg.func44, Tafg.ntmps44
  go_wp2_with (first | (go_at_call 90; refine same_mono (hl _) ?_) | (go_at_call 89; refine same_mono (hfit _) ?_) | (go_at_call 77; refine Calls.mono HREV.out ?_; rintro e w1 ⟨rfl, hown, hfr, hsz⟩))
  go_loopw [6] (fun t wr => t = .int .i64 1 ∧ Own CV wr b 1 f ∧ Frm [b] w wr ∧ wr.heap.size = w.heap.size) (fun t _ => 0)
  case atStart => exact ⟨rfl, own_rev0 hown, hfr, hsz⟩
  case round =>
    obtain ⟨rfl, hown, hfr, hsz⟩ := hrel
    go_wp2
    go_ret
    exact ⟨rfl, hown, hfr, hsz⟩
theorem pairsOf_one (b cap : Nat) (w : World) : Calls Tafg.prog 92 #[.slice (some ⟨b, 0, none⟩) 1 cap] w fun e w' => e = .returned (.tuple #[]) ∧ w' = w := by
  go_enter Tafg.func92, Tafg.ntmps92
  go_wp2
  go_loopw [3, 4, 5] (fun s gp _ wr => s = .int .i64 0 ∧ gp = .int .i64 4 ∧ wr = w) (fun _ _ _ _ => 0)
  case atStart => exact ⟨rfl, rfl, rfl⟩
  case round =>
    obtain ⟨rfl, rfl, rfl⟩ := hrel
    go_wp2
    go_end0
    exact ⟨rfl, rfl⟩
set_option maxHeartbeats 1000000 in
theorem forwardSplit_one1 (b cap tcap : Nat) (ta : Option Addr) (f : Nat → Nat × Nat) (w : World) (hf0 : Own CV w b 1 f) :
    Calls Tafg.prog 45 #[.slice (some ⟨b, 0, none⟩) 1 cap, .slice ta 0 tcap] w fun e w' =>
      e = .returned (.bool true) ∧ Own CV w' b 1 f ∧ Frm [b] w w' ∧ w'.heap.size = w.heap.size := by
  have hp := pairsOf_one b cap
  have hfit := fitsx_one
  have HREV := hid (reverse_any b 1 cap 0 f w (by decide) rfl hf0)
  clear hf0
  go_enter Tafg.func45, Tafg.ntmps45
  go_wp2_with (first | (go_at_call 92; refine same_mono (hp _) ?_) | (go_at_call 89; refine same_mono (hfit _) ?_) | (go_at_call 77; refine Calls.mono HREV.out ?_; rintro e w1 ⟨rfl, hown, hfr, hsz⟩))
  go_loopw [6, 7] (fun t _ wr => t = .int .i64 4 ∧ Own CV wr b 1 f ∧ Frm [b] w wr ∧ wr.heap.size = w.heap.size) (fun t _ _ => 0)
  case atStart => exact ⟨rfl, own_rev0 hown, hfr, hsz⟩
  case round =>
    obtain ⟨rfl, hown, hfr, hsz⟩ := hrel
    go_wp2
    go_ret
    exact ⟨rfl, hown, hfr, hsz⟩
theorem forward4_one (b cap tcap n : Nat) (ta : Option Addr) (f : Nat → Nat × Nat) (w : World) (hn : n = 1) (hf0 : Own CV w b n f) :
    Calls Tafg.prog 44 #[.slice (some ⟨b, 0, none⟩) n cap, .slice ta 0 tcap] w fun e w' =>
      e = .returned (.bool true) ∧ Own CV w' b n f ∧ Frm [b] w w' ∧ w'.heap.size = w.heap.size := by
  subst hn; exact forward4_one1 b cap tcap ta f w hf0
theorem forwardSplit_one (b cap tcap n : Nat) (ta : Option Addr) (f : Nat → Nat × Nat) (w : World) (hn : n = 1) (hf0 : Own CV w b n f) :
    Calls Tafg.prog 45 #[.slice (some ⟨b, 0, none⟩) n cap, .slice ta 0 tcap] w fun e w' =>
      e = .returned (.bool true) ∧ Own CV w' b n f ∧ Frm [b] w w' ∧ w'.heap.size = w.heap.size := by
  subst hn; exact forwardSplit_one1 b cap tcap ta f w hf0

/-- What stands at the last level is near the sums, and so within the bound. -/
theorem lev_law {k h n : Nat} {f g : Nat → Nat × Nat} {M : Rat} {B : Int} (ho : TabOk k h) (hn : n = 2 ^ k) (hh : n = 2 * h) (hM0 : 0 ≤ M) (hM : M ≤ p2 35) (hF : ∀ i, i < n → Bd 35 (f i)) (hL : ∀ i, i < n → Len (cv (f i)) (lenM M))
    (hB : (B : Rat) = bndV k M * p2 2148) (hg : Lev k (fun i => cv (f i)) (lenM M) 35 n k g) (j : Nat) (hj : j < n) :
    OffOk B (exR f (wJ false h (tabF k) n j) n + subZ false k (g j).1) ∧ OffOk B (exI f (wJ false h (tabF k) n j) n + subZ false k (g j).2) := by
  refine near_law false ho.k1 ho.k2 ho.hh hh hj hM0 hM (fun i hi => (hF i hi).nm) hL (hg j hj).bd.nm hB ?_
  have hk := ho.k2
  have a := At.last ho.k1 ho.k2 (natc_le (b := 512) (show 28 * k ≤ 512 by omega)) (lenM_ge hM0) (fun i hi => hL i (by rw [hn]; exact hi)) (show j < 2 ^ k by rw [← hn]; exact hj) (hg j hj)
  rw [← hn] at a
  have e1 : Cx.scale (if false = true then p2 k else 1) (cv (g j)) = cv (g j) := Cx.eq (by show 1 * _ = _; rw [Rat.one_mul]) (by show 1 * _ = _; rw [Rat.one_mul])
  rw [e1]
  refine Len.mono a ?_
  have c3 : p2 (-43) ≤ p2 (-42) := p2_le (by decide)
  exact Rat.mul_le_mul_of_nonneg_right c3 (Rat.mul_nonneg (p2_nonneg k) (Rat.le_trans (p2_nonneg _) (lenM_ge hM0)))

set_option maxRecDepth 20000 in
set_option maxHeartbeats 4000000 in
theorem forwardsNear_any (a : Option Addr) (len cap : Nat) (zs : Nat → Int) (w : World) (hlen : len * 8 ≤ 140737488351232) (hr : InRow .u64 w a len zs) (h64 : ∀ i, i < len → 0 ≤ zs i ∧ zs i < 18446744073709551616) :
    Calls Tafg.prog 9 #[.slice a len cap] w fun e w' => e = .returned (.bool true) ∧ Frm [] w w' := by
  have hz := (zero_of_info Tafg.info31).1
  have HV := hid (vector_any a len cap zs w hlen hr)
  have H64 := hid h64
  clear hr h64 hlen
  go_enter Tafg.func9, Tafg.ntmps9
  go_wp2_with fail
  refine Calls.mono HV.out ?_
  rintro e w1 (⟨rfl, f1⟩ | ⟨k, n, hk, hn, rfl, hX, f1, h2n⟩)
  · have HF := hid f1
    clear f1 HV
    go_wp2
    go_ret
    exact ⟨rfl, HF.out⟩
  · have HX := hid hX
    have HF := hid f1
    have HN := hid hn
    have HLT := hid (pairF_lt zs n len (by omega) H64.out)
    have hb : n ≤ 2048 := by rw [hn]; exact Nat.pow_le_pow_right (by decide) hk
    have hs1 := hX.1
    clear HV hX f1 hn H64
    have d0 : decide ((k : Int) < 0) = false := by simp
    go_wp2_with fail
    refine (partsAtMost_any w.heap.size n n (pairF zs) w1 hb HX.out HLT.out).mono ?_
    rintro e w2 (⟨rfl, rfl⟩ | ⟨rfl, rfl, hBd⟩)
    · go_wp2
      go_ret
      exact ⟨rfl, HF.out⟩
    · have HB := hid hBd
      clear hBd HLT
      rcases Nat.eq_zero_or_pos k with h0 | h0
      · subst h0
        have HN1 := hid (show n = 1 from HN.out)
        go_wp2_with fail
        refine (table_zero _).mono ?_
        rintro e w2 ⟨rfl, rfl⟩
        go_wp2_with fail
        refine (nearBound_any w.heap.size n n 0 (pairF zs) _ hk HN.out HX.out HB.out).mono ?_
        rintro e w4 ⟨m, B, rfl, f4, hG, vB⟩
        have q0 := arr_new w4
        have f5 : Frm [] w (w4.alloc (.cells Z68 31)) := (HF.out.trans f4).alloc _
        have f5' : Frm [] _ (w4.alloc (.cells Z68 31)) := f4.alloc _
        have x5 := HX.out.frame f5' (by simp)
        have hs34 := f4.size
        dsimp only
        iterate 7 go_step
        generalize w4.alloc (.cells Z68 31) = W at *
        generalize hA : w4.heap.size = A at *
        refine wpList_store_mid rfl 31 _ _ rfl A 0 (digsL B).toArray rfl rfl (q0.there2 _) (size31A _) (digsL_one _) ?_
        have o1 := only_setCells W A 0 B
        have q1 := arr_setCells q0 B
        have x6 := x5.frame o1.frm (by simp; omega)
        have f6 := f5.seq (U := []) o1.frm (by simp) (by simp; omega)
        generalize W.setCells A 0 (digsL B) = W1 at *
        have HG := hid hG
        have HVB := hid vB
        have HQ1 := hid q1
        have HX6 := hid x6
        have HF6 := hid f6
        have hqs := q1.1
        clear o1 q0 x5 f5 f5' q1 x6 f6 vB hG f4 hA HX HF
        go_wp2_with fail
        refine (copyC_any w.heap.size n n (pairF zs) W1 hb HX6.out).mono ?_
        rintro e w5 ⟨rfl, hC, f7⟩
        have HX7 := hid (HX6.out.frame f7 (by simp))
        have HQ7 := hid (HQ1.out.frame f7 (by simp))
        have HF7 := hid (HF6.out.trans f7)
        have HC := hid hC
        have hcs := hC.1
        have hs57 := f7.size
        clear hC f7 HX6 HQ1 HF6
        go_wp2_with fail
        refine (copyC_any w.heap.size n n (pairF zs) w5 hb HX7.out).mono ?_
        rintro e w6 ⟨rfl, hC, f7⟩
        have HX8 := hid (HX7.out.frame f7 (by simp))
        have HQ8 := hid (HQ7.out.frame f7 (by simp))
        have HF8 := hid (HF7.out.trans f7)
        have HC8 := hid (HC.out.frame f7 (by simp))
        have HD := hid hC
        have hds := hC.1
        have hs68 := f7.size
        clear hC f7 HX7 HQ7 HF7 HC
        go_wp2_with fail
        refine (forward4_one W1.heap.size n 0 n none (pairF zs) w6 HN1.out HC8.out).mono ?_
        rintro e w7 ⟨rfl, hR, f9, _⟩
        have HX9 := hid (HX8.out.frame f9 (by simp; omega))
        have HQ9 := hid (HQ8.out.frame f9 (by simp; omega))
        have HF9 := hid (HF8.out.seq (U := []) f9 (by simp) (by simp; omega))
        have HD9 := hid (HD.out.frame f9 (by simp; omega))
        have HR := hid hR
        clear hR
        clear f9 HX8 HQ8 HF8 HC8 HD
        go_wp2_with fail
        refine (nearDFT_one false w.heap.size n n W1.heap.size n 0 A 0 none (pairF zs) (pairF zs) B (bndV 0 (V m)) w7 HN1.out HX9.out HR.out HQ9.out HVB.out (bnd_ge 0 HG.out.ge) (bnd_le 0 (by decide) HG.out.ge HG.out.le) (HB.out 0 (by rw [HN1.out]; decide)).nm (HB.out 0 (by rw [HN1.out]; decide)).nm rfl).mono ?_
        rintro e w8 ⟨rfl, f10⟩
        have HX10 := hid (HX9.out.frame f10 (by simp))
        have HQ10 := hid (HQ9.out.frame f10 (by simp))
        have HF10 := hid (HF9.out.trans f10)
        have HD10 := hid (HD9.out.frame f10 (by simp))
        clear f10 HX9 HQ9 HF9 HD9
        go_wp2_with fail
        refine (forwardSplit_one w5.heap.size n 0 n none (pairF zs) w8 HN1.out HD10.out).mono ?_
        rintro e w9 ⟨rfl, hR2, f11, _⟩
        have HX11 := hid (HX10.out.frame f11 (by simp; omega))
        have HQ11 := hid (HQ10.out.frame f11 (by simp; omega))
        have HF11 := hid (HF10.out.seq (U := []) f11 (by simp) (by simp; omega))
        have HR2 := hid hR2
        clear hR2
        clear f11 HX10 HQ10 HF10 HD10
        go_wp2_with fail
        refine (nearDFT_one false w.heap.size n n w5.heap.size n 0 A 0 none (pairF zs) (pairF zs) B (bndV 0 (V m)) w9 HN1.out HX11.out HR2.out HQ11.out HVB.out (bnd_ge 0 HG.out.ge) (bnd_le 0 (by decide) HG.out.ge HG.out.le) (HB.out 0 (by rw [HN1.out]; decide)).nm (HB.out 0 (by rw [HN1.out]; decide)).nm rfl).mono ?_
        rintro e w10 ⟨rfl, f12⟩
        have HF12 := hid (HF11.out.trans f12)
        clear f12 HF11
        go_wp2
        go_ret
        exact ⟨rfl, HF12.out⟩
      · obtain ⟨q, rfl⟩ : ∃ q, k = q + 1 := ⟨k - 1, by omega⟩
        have e1 : ((q + 1 : Nat) : Int) = (q : Int) + 1 := by omega
        obtain ⟨h, hh⟩ : ∃ h, h = 2 ^ q := ⟨_, rfl⟩
        have hn2 : n = 2 * h := by rw [hh, HN.out, Nat.pow_succ]; omega
        have hh0 : 0 < h := by rw [hh]; exact Nat.two_pow_pos _
        have HO : Hid (TabOk (q + 1) h) := hid ⟨by omega, hk, hh⟩
        have HH := hid hh
        have HTB := hid (tabF_bd q (by omega))
        rw [← hh] at HTB
        have HN2 := hid hn2
        have hhb : h ≤ 1024 := by omega
        clear hh hn2
        rw [e1] at d0 ⊢
        clear e1
        go_wp2_with fail
        refine (table_any q h (by omega) HH.out _).mono ?_
        rintro e w2' ⟨rfl, hT, fT⟩
        have HT := hid hT
        have HX2 := hid (HX.out.frame fT (by simp))
        have HFT := hid (HF.out.trans fT)
        have hsT := fT.size
        have hTs := hT.1
        clear hT fT
        go_wp2_with fail
        refine (nearBound_any w.heap.size n n (q + 1) (pairF zs) w2' hk HN.out HX2.out HB.out).mono ?_
        rintro e w4 ⟨m, B, rfl, f4, hG, vB⟩
        have q0 := arr_new w4
        have f5 : Frm [] w (w4.alloc (.cells Z68 31)) := (HFT.out.trans f4).alloc _
        have f5' : Frm [] w2' (w4.alloc (.cells Z68 31)) := f4.alloc _
        have x5 := HX2.out.frame f5' (by simp)
        have t5 := HT.out.frame f5' (by simp)
        have hs34 := f4.size
        dsimp only
        iterate 7 go_step
        generalize w4.alloc (.cells Z68 31) = W at *
        generalize hA : w4.heap.size = A at *
        refine wpList_store_mid rfl 31 _ _ rfl A 0 (digsL B).toArray rfl rfl (q0.there2 _) (size31A _) (digsL_one _) ?_
        have o1 := only_setCells W A 0 B
        have q1 := arr_setCells q0 B
        have x6 := x5.frame o1.frm (by simp; omega)
        have t6 := t5.frame o1.frm (by simp; omega)
        have f6 := f5.seq (U := []) o1.frm (by simp) (by simp; omega)
        generalize W.setCells A 0 (digsL B) = W1 at *
        have HG := hid hG
        have HVB := hid vB
        have HQ1 := hid q1
        have HX6 := hid x6
        have HT6 := hid t6
        have HF6 := hid f6
        have hqs := q1.1
        clear o1 q0 x5 f5 f5' q1 x6 f6 vB hG f4 hA t5 t6
        go_wp2_with fail
        refine (copyC_any w.heap.size n n (pairF zs) W1 hb HX6.out).mono ?_
        rintro e w5 ⟨rfl, hC, f7⟩
        have HX7 := hid (HX6.out.frame f7 (by simp))
        have HQ7 := hid (HQ1.out.frame f7 (by simp))
        have HT7 := hid (HT6.out.frame f7 (by simp))
        have HF7 := hid (HF6.out.trans f7)
        have HC := hid hC
        have hcs := hC.1
        have hs57 := f7.size
        clear hC f7 HX6 HQ1 HF6 HT6
        go_wp2_with fail
        refine (copyC_any w.heap.size n n (pairF zs) w5 hb HX7.out).mono ?_
        rintro e w6 ⟨rfl, hC, f7⟩
        have HX8 := hid (HX7.out.frame f7 (by simp))
        have HQ8 := hid (HQ7.out.frame f7 (by simp))
        have HT8 := hid (HT7.out.frame f7 (by simp))
        have HF8 := hid (HF7.out.trans f7)
        have HC8 := hid (HC.out.frame f7 (by simp))
        have HD := hid hC
        have hds := hC.1
        have hs68 := f7.size
        clear hC f7 HX7 HQ7 HF7 HC HT7
        go_wp2_with fail
        refine (forward4_any W1.heap.size n n w2.heap.size h h (q + 1) 35 (lenM (V m)) (pairF zs) w6 HO.out HN.out HN2.out (by omega) HT8.out HC8.out (by decide) (by decide) (lenM_ge HG.out.ge) HB.out HG.out.len).mono ?_
        rintro e w7 ⟨rfl, ⟨g1, hR, hL1⟩, f9, _⟩
        have HX9 := hid (HX8.out.frame f9 (by simp; omega))
        have HQ9 := hid (HQ8.out.frame f9 (by simp; omega))
        have HT9 := hid (HT8.out.frame f9 (by simp; omega))
        have HF9 := hid (HF8.out.seq (U := []) f9 (by simp) (by simp; omega))
        have HD9 := hid (HD.out.frame f9 (by simp; omega))
        have HR := hid hR
        have HL1 := hid hL1
        clear hR hL1
        clear f9 HX8 HQ8 HF8 HC8 HD HT8
        go_wp2_with fail
        refine (nearDFT_any false w.heap.size n n W1.heap.size n w2.heap.size h h (q + 1) A 0 (pairF zs) g1 (tabF (q + 1)) B w7 HN2.out hh0 hhb hk HN.out HX9.out HR.out HT9.out HQ9.out (bnd_in hk HG.out.ge HG.out.le HVB.out) (fun i hi => (HB.out i hi).nm) (fun i hi => (HL1.out i hi).bd.nm) (fun i hi => (HTB.out i hi).nm) (fun j hj => (lev_law HO.out HN.out HN2.out HG.out.ge HG.out.le HB.out HG.out.len HVB.out HL1.out j hj).1) (fun j hj => (lev_law HO.out HN.out HN2.out HG.out.ge HG.out.le HB.out HG.out.len HVB.out HL1.out j hj).2)).mono ?_
        rintro e w8 ⟨rfl, f10⟩
        have HX10 := hid (HX9.out.frame f10 (by simp))
        have HQ10 := hid (HQ9.out.frame f10 (by simp))
        have HT10 := hid (HT9.out.frame f10 (by simp))
        have HF10 := hid (HF9.out.trans f10)
        have HD10 := hid (HD9.out.frame f10 (by simp))
        clear f10 HX9 HQ9 HF9 HD9 HT9
        go_wp2_with fail
        refine (forwardSplit_any w5.heap.size n n w2.heap.size h h (q + 1) 35 (lenM (V m)) (pairF zs) w8 HO.out HN.out HN2.out (by omega) HT10.out HD10.out (by decide) (by decide) (lenM_ge HG.out.ge) HB.out HG.out.len).mono ?_
        rintro e w9 ⟨rfl, ⟨g2, hR2, hL2⟩, f11, _⟩
        have HX11 := hid (HX10.out.frame f11 (by simp; omega))
        have HQ11 := hid (HQ10.out.frame f11 (by simp; omega))
        have HT11 := hid (HT10.out.frame f11 (by simp; omega))
        have HF11 := hid (HF10.out.seq (U := []) f11 (by simp) (by simp; omega))
        have HR2 := hid hR2
        have HL2 := hid hL2
        clear hR2 hL2
        clear f11 HX10 HQ10 HF10 HD10 HT10
        go_wp2_with fail
        refine (nearDFT_any false w.heap.size n n w5.heap.size n w2.heap.size h h (q + 1) A 0 (pairF zs) g2 (tabF (q + 1)) B w9 HN2.out hh0 hhb hk HN.out HX11.out HR2.out HT11.out HQ11.out (bnd_in hk HG.out.ge HG.out.le HVB.out) (fun i hi => (HB.out i hi).nm) (fun i hi => (HL2.out i hi).bd.nm) (fun i hi => (HTB.out i hi).nm) (fun j hj => (lev_law HO.out HN.out HN2.out HG.out.ge HG.out.le HB.out HG.out.len HVB.out HL2.out j hj).1) (fun j hj => (lev_law HO.out HN.out HN2.out HG.out.ge HG.out.le HB.out HG.out.len HVB.out HL2.out j hj).2)).mono ?_
        rintro e w10 ⟨rfl, f12⟩
        have HF12 := hid (HF11.out.trans f12)
        clear f12 HF11
        go_wp2
        go_ret
        exact ⟨rfl, HF12.out⟩
end Go.Proofs.Ygctaf
