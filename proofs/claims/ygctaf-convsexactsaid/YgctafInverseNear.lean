/-
  law.InverseNear
-/
import Derived.Test.YgctafW23
import Derived.Test.YgctafBackExact
namespace Go.Proofs.Ygctaf
open Go.RowKit Ieee
attribute [local go_sem] run_store_complex run_store_float CV_eq FV_eq

theorem bnd_ge (k : Nat) {M : Rat} (h : 0 ≤ M) : 0 ≤ bndV k M := by
  unfold bndV
  have := Rat.mul_nonneg h (p2_nonneg ((k : Int) - 40))
  have := p2_nonneg (-1000)
  grind
theorem bnd_le (k : Nat) (hk : k ≤ 11) {M : Rat} (h0 : 0 ≤ M) (h : M ≤ p2 35) : bndV k M ≤ p2 100 := by
  unfold bndV
  have c1 : p2 ((k : Int) - 40) ≤ p2 0 := p2_le (by omega)
  rw [p2_zero] at c1
  have c2 := Rat.mul_le_mul_of_nonneg_left c1 h0
  have c3 : p2 35 + p2 (-1000) ≤ p2 100 := by decide +kernel
  generalize p2 (-1000) = d at *
  grind
theorem bnd_in {k : Nat} {M : Rat} {B : Int} (hk : k ≤ 11) (h0 : 0 ≤ M) (h : M ≤ p2 35) (vB : (B : Rat) = bndV k M * p2 2148) : InAcc B := by
  refine (inAcc_small ?_).1
  rw [vB, abs_mul, Rat.abs_of_nonneg (bnd_ge k h0), Rat.abs_of_nonneg (p2_nonneg _)]
  have := Rat.mul_le_mul_of_nonneg_right (bnd_le k hk h0 h) (p2_nonneg 2148)
  rw [← p2_add] at this
  exact Rat.le_trans this (p2_le (by decide))
theorem Grt.le {n m : Nat} {f : Nat → Nat × Nat} (h : Grt n f m) : V m ≤ p2 35 := by
  have := h.b.le
  rw [Rat.abs_of_nonneg h.ge] at this; exact this
theorem Grt.len {n m : Nat} {f : Nat → Nat × Nat} (h : Grt n f m) (i : Nat) (hi : i < n) : Len (cv (f i)) (lenM (V m)) := len_of_parts (h.all i hi).1 (h.all i hi).2
/-- One point: the inverse is the point. -/
theorem inv_one_val {f : Nat → Nat × Nat} {T : Nat → Nat × Nat} (h : Bd 35 (f 0)) : Bd 102 (invF 0 T f 0) ∧ cv (invF 0 T f 0) = cv (f 0) := by
  have e1 : invF 0 T f 0 = cdivn (2 ^ 0) (f 0) := rfl
  have hv := fint_pow_val 0 (by decide)
  have key : ∀ x : Nat, B1 35 x → V (fdiv x (fint ((2 ^ 0 : Nat) : Int))) = V x := by
    intro x hx
    have hq : V x / V (fint ((2 ^ 0 : Nat) : Int)) = V x := by rw [hv.2, div_p2, show (-((0 : Nat) : Int)) = 0 from rfl, p2_zero, Rat.mul_one]
    have r := div_rounded hx.num (fint_pow 0 (by decide)) (by rw [hq]; exact le_lt_1023 hx.le (by decide))
    obtain ⟨s, m, e, c, _, _, hm, he, _, hvx⟩ := split_num hx.lt hx.num
    have := r.exact (if s then -(m : Int) else m) e he (by split <;> omega) (by
      rw [hq, hvx]
      cases s
      · rw [sgn_false]; show _ = (((m : Int)) : Rat) * p2 e; rw [show (((m : Int)) : Rat) = (m : Rat) from rfl]; grind
      · rw [sgn_true]; show _ = ((-(m : Int) : Int) : Rat) * p2 e; rw [Rat.intCast_neg, show (((m : Int)) : Rat) = (m : Rat) from rfl]; grind)
    rw [this, hq]
  rw [e1]
  exact ⟨(h.divn 0 (by decide) (by decide) (by decide)).mono (by decide), Cx.eq (key _ h.re) (key _ h.im)⟩

set_option maxRecDepth 20000 in
set_option maxHeartbeats 4000000 in
theorem inverseNear_any (a : Option Addr) (len cap : Nat) (zs : Nat → Int) (w : World) (hlen : len * 8 ≤ 140737488351232) (hr : InRow .u64 w a len zs) (h64 : ∀ i, i < len → 0 ≤ zs i ∧ zs i < 18446744073709551616) :
    Calls Tafg.prog 3 #[.slice a len cap] w fun e w' => e = .returned (.bool true) ∧ Frm [] w w' := by
  have hz := (zero_of_info Tafg.info31).1
  have HV := hid (vector_any a len cap zs w hlen hr)
  have H64 := hid h64
  clear hr h64 hlen
  go_enter Tafg.func3, Tafg.ntmps3
  go_wp2_with fail
  refine Calls.mono HV.out ?_
  rintro e w1 (⟨rfl, f1⟩ | ⟨k, n, hk, hn, rfl, hX, f1, h2n⟩)
  · have HF := hid f1
    clear f1 HV
    go_wp2
    go_ret
    exact ⟨rfl, HF.out⟩
  · have HX := hid hX
    have HF := hid f1
    have HN := hid hn
    have HLT := hid (pairF_lt zs n len (by omega) H64.out)
    have hb : n ≤ 2048 := by rw [hn]; exact Nat.pow_le_pow_right (by decide) hk
    have hs1 := hX.1
    clear HV hX f1 hn H64
    have d0 : decide ((k : Int) < 0) = false := by simp
    go_wp2_with fail
    refine (partsAtMost_any w.heap.size n n (pairF zs) w1 hb HX.out HLT.out).mono ?_
    rintro e w2 (⟨rfl, rfl⟩ | ⟨rfl, rfl, hBd⟩)
    · go_wp2
      go_ret
      exact ⟨rfl, HF.out⟩
    · have HB := hid hBd
      clear hBd HLT
      rcases Nat.eq_zero_or_pos k with h0 | h0
      · subst h0
        have HN1 := hid (show n = 1 from HN.out)
        go_wp2_with fail
        refine (table_zero _).mono ?_
        rintro e w2 ⟨rfl, rfl⟩
        go_wp2_with fail
        refine (copyC_any w.heap.size n n (pairF zs) _ hb HX.out).mono ?_
        rintro e w3 ⟨rfl, hC, f3⟩
        have x3 := HX.out.frame f3 (by simp)
        have HX3 := hid x3
        have HC := hid hC
        have HF3 := hid f3
        clear x3 hC f3
        go_wp2_with fail
        refine (nearBound_any w.heap.size n n 0 (pairF zs) w3 hk HN.out HX3.out HB.out).mono ?_
        rintro e w4 ⟨m, B, rfl, f4, hG, vB⟩
        have q0 := arr_new w4
        have f5 : Frm [] w (w4.alloc (.cells Z68 31)) := ((HF.out.trans HF3.out).trans f4).alloc _
        have f5' : Frm [] w3 (w4.alloc (.cells Z68 31)) := f4.alloc _
        have x5 := HX3.out.frame f5' (by simp)
        have c5 := HC.out.frame f5' (by simp)
        have hs4 := ((HF.out.trans HF3.out).trans f4).size
        have hs34 := f4.size
        have hs23 := HF3.out.size
        have hcl := HC.out.1
        dsimp only
        iterate 10 go_step
        generalize w4.alloc (.cells Z68 31) = W at *
        generalize hA : w4.heap.size = A at *
        refine wpList_store_mid rfl 31 _ _ rfl A 0 (digsL B).toArray rfl rfl (q0.there2 _) (size31A _) (digsL_one _) ?_
        have o1 := only_setCells W A 0 B
        have q1 := arr_setCells q0 B
        have x6 := x5.frame o1.frm (by simp; omega)
        have c6 := c5.frame o1.frm (by simp; omega)
        have f6 := f5.seq (U := []) o1.frm (by simp) (by simp; omega)
        generalize W.setCells A 0 (digsL B) = W1 at *
        have HG := hid hG
        have HVB := hid vB
        have HQ1 := hid q1
        have HX6 := hid x6
        have HC6 := hid c6
        have HF6 := hid f6
        clear o1 q0 x5 c5 f5 f5' q1 x6 c6 f6 vB hG f4 HX3 HC HF3 hA
        go_wp2_with fail
        refine (inverse_one w2.heap.size n 0 n 35 none (tabF 0) (pairF zs) W1 HN1.out HC6.out (HB.out 0 (by rw [HN1.out]; decide))).mono ?_
        rintro e w5 ⟨rfl, hR, f7⟩
        have x7 := HX6.out.frame f7 (by simp; omega)
        have q7 := HQ1.out.frame f7 (by simp; omega)
        have g7 := HF6.out.seq (U := []) f7 (by simp) (by simp; omega)
        have HR := hid hR
        have HX7 := hid x7
        have HQ7 := hid q7
        have HG7 := hid g7
        clear hR x7 q7 g7 f7 HX6 HQ1 HF6 HC6
        go_wp2_with fail
        have hone := inv_one_val (T := tabF 0) (HB.out 0 (by rw [HN1.out]; decide))
        refine (nearDFT_one true w.heap.size n n w2.heap.size n 0 A 0 none (pairF zs) (invF 0 (tabF 0) (pairF zs)) B (bndV 0 (V m)) w5 HN1.out HX7.out HR.out HQ7.out HVB.out (bnd_ge 0 HG.out.ge) (bnd_le 0 (by decide) HG.out.ge HG.out.le) (HB.out 0 (by rw [HN1.out]; decide)).nm hone.1.nm hone.2).mono ?_
        rintro e w6 ⟨rfl, f8⟩
        have g8 := hid (HG7.out.trans f8)
        clear hone f8
        go_wp2
        go_ret
        exact ⟨rfl, g8.out⟩
      · obtain ⟨q, rfl⟩ : ∃ q, k = q + 1 := ⟨k - 1, by omega⟩
        have e1 : ((q + 1 : Nat) : Int) = (q : Int) + 1 := by omega
        obtain ⟨h, hh⟩ : ∃ h, h = 2 ^ q := ⟨_, rfl⟩
        have hn2 : n = 2 * h := by rw [hh, HN.out, Nat.pow_succ]; omega
        have hh0 : 0 < h := by rw [hh]; exact Nat.two_pow_pos _
        have HH := hid hh
        have HTB := hid (tabF_bd q (by omega))
        rw [← hh] at HTB
        have HN2 := hid hn2
        have hhb : h ≤ 1024 := by omega
        clear hh hn2
        rw [e1] at d0 ⊢
        clear e1
        go_wp2_with fail
        refine (table_any q h (by omega) HH.out _).mono ?_
        rintro e w2' ⟨rfl, hT, fT⟩
        have HT := hid hT
        have HX2 := hid (HX.out.frame fT (by simp))
        have HFT := hid (HF.out.trans fT)
        have hsT := fT.size
        have hTs := hT.1
        clear hT fT
        go_wp2_with fail
        refine (copyC_any w.heap.size n n (pairF zs) _ hb HX2.out).mono ?_
        rintro e w3 ⟨rfl, hC, f3⟩
        have HX3 := hid (HX2.out.frame f3 (by simp))
        have HT3 := hid (HT.out.frame f3 (by simp))
        have HC := hid hC
        have HF3 := hid (HFT.out.trans f3)
        have hs23 := f3.size
        have hcl := hC.1
        clear hC f3 HX2 HT HFT
        go_wp2_with fail
        refine (nearBound_any w.heap.size n n (q + 1) (pairF zs) w3 hk HN.out HX3.out HB.out).mono ?_
        rintro e w4 ⟨m, B, rfl, f4, hG, vB⟩
        have q0 := arr_new w4
        have f5 : Frm [] w (w4.alloc (.cells Z68 31)) := (HF3.out.trans f4).alloc _
        have f5' : Frm [] w3 (w4.alloc (.cells Z68 31)) := f4.alloc _
        have x5 := HX3.out.frame f5' (by simp)
        have t5 := HT3.out.frame f5' (by simp)
        have c5 := HC.out.frame f5' (by simp)
        have hs34 := f4.size
        dsimp only
        iterate 10 go_step
        generalize w4.alloc (.cells Z68 31) = W at *
        generalize hA : w4.heap.size = A at *
        refine wpList_store_mid rfl 31 _ _ rfl A 0 (digsL B).toArray rfl rfl (q0.there2 _) (size31A _) (digsL_one _) ?_
        have o1 := only_setCells W A 0 B
        have q1 := arr_setCells q0 B
        have x6 := x5.frame o1.frm (by simp; omega)
        have t6 := t5.frame o1.frm (by simp; omega)
        have c6 := c5.frame o1.frm (by simp; omega)
        have f6 := f5.seq (U := []) o1.frm (by simp) (by simp; omega)
        generalize W.setCells A 0 (digsL B) = W1 at *
        have HG := hid hG
        have HVB := hid vB
        have HQ1 := hid q1
        have HX6 := hid x6
        have HT6 := hid t6
        have HC6 := hid c6
        have HF6 := hid f6
        clear o1 q0 x5 t5 c5 f5 f5' q1 x6 t6 c6 f6 vB hG f4 HX3 HT3 HC HF3 hA
        go_wp2_with fail
        refine (inverse_any w2'.heap.size n n w2.heap.size h h (q + 1) 35 (tabF (q + 1)) (pairF zs) W1 (by omega) hk HN.out HN2.out (by omega) HT6.out HC6.out (by decide) (by decide) HTB.out HB.out).mono ?_
        rintro e w5 ⟨rfl, hR, f7⟩
        have HX7 := hid (HX6.out.frame f7 (by simp; omega))
        have HT7 := hid (HT6.out.frame f7 (by simp; omega))
        have HQ7 := hid (HQ1.out.frame f7 (by simp; omega))
        have HG7 := hid (HF6.out.seq (U := []) f7 (by simp) (by simp; omega))
        have HR := hid hR
        clear hR f7 HX6 HQ1 HF6 HC6 HT6
        have nG : ∀ i, i < n → Nm (invF (q + 1) (tabF (q + 1)) (pairF zs) i) := fun i hi =>
          (invF_bd (e := 35) (h := h) hk (by decide) (by decide) (.inr (by rw [← HN.out]; exact HN2.out)) HTB.out (fun i hi => HB.out i (by rw [HN.out]; exact hi)) i (by rw [← HN.out]; exact hi)).nm
        have nX : ∀ i, i < n → Nm (pairF zs i) := fun i hi => (HB.out i hi).nm
        have law : ∀ j, j < n → OffOk B (exR (pairF zs) (wJ true h (tabF (q + 1)) n j) n + subZ true (q + 1) (invF (q + 1) (tabF (q + 1)) (pairF zs) j).1) ∧ OffOk B (exI (pairF zs) (wJ true h (tabF (q + 1)) n j) n + subZ true (q + 1) (invF (q + 1) (tabF (q + 1)) (pairF zs) j).2) := fun j hj =>
          near_law true (by omega) hk HH.out HN2.out hj HG.out.ge HG.out.le nX HG.out.len (nG j hj) HVB.out (by
            have := inv_near (k := q + 1) (f := pairF zs) (M := V m) (by omega) hk HG.out.ge (fun i hi => HB.out i (by rw [HN.out]; exact hi)) (fun i hi => HG.out.len i (by rw [HN.out]; exact hi)) j (by rw [← HN.out]; exact hj)
            rw [← HN.out] at this
            exact this)
        have HLAW := hid law
        have HNG := hid nG
        have HNX := hid nX
        clear law nG nX
        go_wp2_with fail
        refine (nearDFT_any true w.heap.size n n w2'.heap.size n w2.heap.size h h (q + 1) A 0 (pairF zs) (invF (q + 1) (tabF (q + 1)) (pairF zs)) (tabF (q + 1)) B w5 HN2.out hh0 hhb hk HN.out HX7.out HR.out HT7.out HQ7.out (bnd_in hk HG.out.ge HG.out.le HVB.out) HNX.out HNG.out (fun i hi => (HTB.out i hi).nm) (fun j hj => (HLAW.out j hj).1) (fun j hj => (HLAW.out j hj).2)).mono ?_
        rintro e w6 ⟨rfl, f8⟩
        have g8 := hid (HG7.out.trans f8)
        clear f8
        go_wp2
        go_ret
        exact ⟨rfl, g8.out⟩
end Go.Proofs.Ygctaf
