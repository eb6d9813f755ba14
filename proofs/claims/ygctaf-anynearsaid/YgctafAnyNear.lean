/-
  law.AnyNear
-/
import Derived.Test.YgctafAnyBack
import Derived.BigRegion
import Derived.Deep.RegionWith
import Derived.Deep.DeepCutAuto
namespace Go.Proofs.Ygctaf
open Ieee Go.RowKit
attribute [local go_sem] run_store_complex run_store_float CV_eq FV_eq

theorem b10_val : Num 4562146422526312448 ∧ V 4562146422526312448 = p2 (-10) := by
  have h : double.read 4562146422526312448 = .number false 4503599627370496 (-62) := by decide +kernel
  refine ⟨⟨_, _, _, h⟩, ?_⟩
  unfold V
  rw [h]
  show sgn false * (((4503599627370496 : Nat) : Rat) * p2 (-62)) = p2 (-10)
  decide +kernel
theorem B10 : (FZ 4562146422526312448 : Rat) = p2 (-10) * p2 2148 := by rw [FZ_val (by decide) b10_val.1, b10_val.2]
theorem in10 : InAcc (FZ 4562146422526312448) := in_of B10 (p2_nonneg _) (p2_le (by decide))

theorem intS_bd {z : Nat → Int} {i : Nat} (h : (z i).natAbs ≤ 32768) : Bd 15 (intF z i) := ⟨B1.int (e := 15) (by omega) (by decide), B1.zero 15⟩
theorem intS_cv {z : Nat → Int} {i : Nat} (h : (z i).natAbs ≤ 32768) : cv (intF z i) = rC (z i) := cv_int (by omega)
theorem an_num {n e b : Rat} (hn : n ≤ 1024) (he : 0 ≤ e) (hb : b + 1024 * e ≤ p2 (-10)) : n * e + b ≤ p2 (-10) := by
  have := Rat.mul_le_mul_of_nonneg_right hn he
  generalize p2 (-10) = q at *
  grind
theorem anyNear_ok {q n j : Nat} {z : Nat → Int} (h0 : 0 < n) (hn : n ≤ 1024) (hq : q ≤ 10) (hN : 2 * n ≤ 2 ^ (q + 1) + 1) (hz : ∀ i, i < n → (z i).natAbs ≤ 32768) (hj : j < n) :
    OffOk (FZ 4562146422526312448) (exR (intF z) (fun i => rootF n (i * j % n)) n + FZ (fneg (blF q n (intF z) (chF n) j).1)) ∧
    OffOk (FZ 4562146422526312448) (exI (intF z) (fun i => rootF n (i * j % n)) n + FZ (fneg (blF q n (intF z) (chF n) j).2)) := by
  have hF : ∀ i, i < n → Bd 15 (intF z i) := fun i hi => intS_bd (hz i hi)
  have hlen : ∀ i, i < n → Len (cv (intF z i)) (p2 15) := fun i hi => by
    rw [intS_cv (hz i hi)]
    exact (rC_len (n := z i) (B := 32768) (hz i hi)).mono (by decide +kernel)
  have gm := (blF_bd hq hN (e := 15) (by decide) (by decide) hF (fun i _ => chF_bd (j := i) h0 hn) j hj).nm
  have rn := fun i (_ : i < n) => root_near h0 (show n ≤ 2048 by omega) (Nat.mod_lt (i * j) h0)
  obtain ⟨x1, x2⟩ := exC n (f := intF z) (W := fun i => rootF n (i * j % n)) (fun i hi => (hF i hi).nm) (fun i hi => (rn i hi).1.nm)
  have s : Len ((sumC n fun i => (cv (intF z i)).mul (cv (rootF n (i * j % n)))).sub (anyI n (fun i => cv (intF z i)) j)) ((n : Rat) * (p2 15 * (15/2 * EE))) := by
    unfold anyI
    rw [← sumC_sub]
    refine Len.sum_const fun i hi => ?_
    rw [← Cx.mul_sub]
    exact (hlen i hi).mul (rn i hi).2
  have b := bl_err h0 hn hq hN (by decide) (by decide) hF (p2_le (by decide)) hlen j hj
  have hp2 : (n : Rat) ≤ 1024 := by
    have := Rat.natCast_le_natCast.2 hn
    exact this
  have t := (s.tri b.flip).mono (an_num hp2 (show 0 ≤ p2 15 * (15/2 * EE) by unfold EE; decide +kernel) (by unfold bE EE; decide +kernel))
  obtain ⟨t1, t2⟩ := t.parts
  have n1 := neg_num gm.l1 gm.n1
  have n2 := neg_num gm.l2 gm.n2
  generalize (sumC n fun i => (cv (intF z i)).mul (cv (rootF n (i * j % n)))) = S at *
  generalize blF q n (intF z) (chF n) j = g at *
  constructor
  · refine off_of (u := (S.sub (cv g)).re) ?_ B10 t1 (p2_le (by decide))
    rw [Rat.intCast_add, x1, FZ_val (neg_lt gm.l1) n1.1, n1.2]
    show _ = (S.re - V g.1) * p2 2148
    generalize p2 2148 = P
    clear x1 x2 t t1 t2 s b
    grind
  · refine off_of (u := (S.sub (cv g)).im) ?_ B10 t2 (p2_le (by decide))
    rw [Rat.intCast_add, x2, FZ_val (neg_lt gm.l2) n2.1, n2.2]
    show _ = (S.im - V g.2) * p2 2148
    generalize p2 2148 = P
    clear x1 x2 t t1 t2 s b
    grind

set_option maxRecDepth 20000 in
set_option maxHeartbeats 4000000 in
theorem anyNear_any (a : Option Addr) (n0 cap : Nat) (zs : Nat → Int) (st : Nat) (w : World) (hst : st < 256) (hn0 : n0 * 2 ≤ 140737488351232) (hr : InRow .i16 w a n0 zs) (hzs : ∀ i, i < n0 → (zs i).natAbs ≤ 32768) :
    Calls Tafg.prog 12 #[.slice a n0 cap, .int .u8 (st : Int)] w fun e w' => e = .returned (.bool true) ∧ Frm [] w w' := by
  obtain ⟨n, hn⟩ : ∃ n, n = min n0 1024 := ⟨_, rfl⟩
  have HR := hid hr
  have HZS := hid hzs
  have hz31 := (zero_of_info Tafg.info31).1
  have hz72 := (zero_of_info Tafg.info72).1
  clear hr hzs
  go_enter Tafg.func12, Tafg.ntmps12
  go_upto_if 17 with fail
  go_cut [5] (fun s5 wx => s5 = .int .i64 (n : Int) ∧ w = wx)
  case first =>
    by_cases hb : 1024 < n0
    · have e : (n : Int) = 1024 := by omega
      have HE := hid e
      clear e hn
      go_wp2_with fail
      go_meet
      exact ⟨by rw [HE.out], rfl⟩
    · have e : n = n0 := by omega
      subst e
      clear hn
      go_wp2_with fail
      go_meet
      exact ⟨rfl, rfl⟩
  case rest =>
  obtain ⟨rfl, rfl⟩ := hcut
  have hnn : n ≤ n0 := by omega
  have hn1 : n ≤ 1024 := by omega
  rcases Nat.eq_zero_or_pos n with h0 | h0
  · have p4 : ((n : Int) == 0) = true := by simp; omega
    have he : ∀ w : World, (binOp .eql 23 (.slice none 0 0) (.slice none 0 0)).run Tafg.prog w = .ok (.bool true) w := fun _ => rfl
    have c1 := forwardAny_nil
    have c2 := inverseAny_nil
    clear hn h0
    go_wp2_with (first | (go_at_call 63; refine same_mono (c1 _) ?_) | (go_at_call 64; refine same_mono (c2 _) ?_))
    go_ret
    exact ⟨rfl, Frm.refl _ _⟩
  clear hn
  obtain ⟨q, hq, hlv⟩ := any_lvl n hn1
  have hnN : 2 * n ≤ 2 ^ (q + 1) + 1 := by have := hlv.1; omega
  have hzn : ∀ i, i < n → (zs i).natAbs ≤ 32768 := fun i hi => HZS.out i (by omega)
  have HOK := hid (fun j (hj : j < n) => anyNear_ok (j := j) h0 hn1 hq hnN hzn hj)
  have HBF := hid (fun i (hi : i < n) => intS_bd (hzn i hi))
  have HBG := hid (fun j (hj : j < n) => (blF_bd hq hnN (e := 15) (by decide) (by decide) (fun i hi => intS_bd (hzn i hi)) (fun i _ => chF_bd (j := i) h0 hn1) j hj).nm)
  have HLV := hid hlv
  have hmk := make_c n (by omega)
  have hfi := floatOfInt_eq
  have p4 : ((n : Int) == 0) = false := by simp; omega
  clear hlv hnN hzn HZS
  go_upto_region 6 with fail
  go_cut [6, 7] (fun s6 s7 wx => ∃ X R : Nat, s6 = .slice (some ⟨X, 0, none⟩) n n ∧ s7 = .slice (some ⟨R, 0, none⟩) n n ∧ X ≠ R ∧ w.heap.size ≤ X ∧ w.heap.size ≤ R ∧ Own CV wx X n (fun _ => (0, 0)) ∧ Own CV wx R n (fun _ => (0, 0)) ∧ Frm [] w wx)
  case first =>
    go_region
    · go_wp2_with fail
      go_meet
      exact ⟨_, _, rfl, rfl, by omega, by omega, by omega, (two_made w n).1, (two_made w n).2, (((Frm.refl [] w).alloc _).alloc _).drew⟩
    · go_wp2_with fail
      go_meet
      exact ⟨_, _, rfl, rfl, by omega, by omega, by omega, (two_made w n).2, (two_made w n).1, (((Frm.refl [] w).alloc _).alloc _).drew⟩
  case rest =>
  obtain ⟨X, R, rfl, rfl, hXR, hXs, hRs, hX, hR, hF⟩ := hcut
  have HX := hid hX
  have HRR := hid hR
  have HF := hid hF
  clear hX hR hF hmk
  go_wp2_with fail
  go_loopw [8] (fun i wr => ∃ k : Nat, k ≤ n ∧ i = .int .i64 k ∧ Own CV wr X n (fun i => if i < k then intF zs i else (0, 0)) ∧ Own CV wr R n (fun i => if i < k then rootF n i else (0, 0)) ∧ Frm [] w wr) (fun i _ => n - (intOf i).toNat)
  case atStart => exact ⟨0, Nat.zero_le _, rfl, by simpa using HX.out, by simpa using HRR.out, HF.out⟩
  case round =>
    obtain ⟨k, hk, rfl, hX, hR, hfr⟩ := hrel
    by_cases hlt : k < n
    · rcases HR.out with h0 | ⟨b, off, rfl, hb, hrd⟩
      · omega
      have c1 : wr.cell? ⟨b, off + k, none⟩ = some (.int .i16 (zs k)) := (hrd.frame hfr hb (by simp)) k (by omega)
      obtain ⟨old, c3, c4⟩ := hX.get hlt
      have hX1 := hX.step hlt (v := .complex .f64 (fint (zs k)) 0) rfl
      have hR1 := hR.setCell_other (i := k) hXR (.complex .f64 (fint (zs k)) 0)
      obtain ⟨old2, c5, c6⟩ := hR1.get hlt
      have cR := root_nat n k (k : Int) h0 (by omega) (Int.emod_eq_of_lt (by omega) (by omega))
      have hR2 := hR1.step hlt (v := CV (rootF n k)) rfl
      have hX2 := hX1.setCell_other (i := k) hXR.symm (CV (rootF n k))
      have HX2 := hid hX2
      have HR2 := hid hR2
      have HFR := hid ((hfr.setCell (p := ⟨X, k, none⟩) (.inr hXs) (.complex .f64 (fint (zs k)) 0)).setCell (p := ⟨R, k, none⟩) (.inr hRs) (CV (rootF n k)))
      clear hX hR hX1 hR1 hX2 hR2 hfr hrd HR HOK HBF HBG HLV
      go_wp2_with (first | (go_at_call 57; refine same_mono (cR _) ?_))
      go_roundw
      case rel => exact ⟨k + 1, by omega, by go_num, HX2.out, HR2.out, HFR.out⟩
      case measure => simp [intOf]; omega
    · have hX1 := hX.full (by omega)
      have hR1 := hR.full (by omega)
      have HC1 := hid (forwardAny_any X n n q 15 (intF zs) wr h0 hn1 hq HLV.out hX1 (by decide) (by decide) HBF.out)
      have HX1 := hid hX1
      have HR1 := hid hR1
      have HFR := hid hfr
      clear hX hR hfr hX1 hR1 HX HRR HF HLV
      go_wp2_with fail
      refine Calls.mono HC1.out ?_
      rintro e w1 ⟨G, rfl, hG, hG1, hfr1⟩
      have hX2 := HX1.out.frame hfr1 (by simp)
      have hR2 := HR1.out.frame hfr1 (by simp)
      have k1 := HFR.out.trans hfr1
      have hXl := HX1.out.1
      have hRl := HR1.out.1
      have hXG : X ≠ G := by omega
      have hRG : R ≠ G := by omega
      clear HC1 HX1 HR1 HFR hfr1
      go_wp2_with fail
      refine (accOf_any _ w1 (by decide) b10_val.1).mono ?_
      rintro e w2 ⟨rfl, g2⟩
      have hX3 := hX2.frame g2 (by simp)
      have hR3 := hR2.frame g2 (by simp)
      have hG3 := hG1.frame g2 (by simp)
      have k2 := k1.trans g2
      clear hX2 hR2 hG1 k1 g2
      dsimp only
      iterate 7 go_step
      have a1 := arr_new w2
      have k3 : Frm [] w (w2.alloc (.cells Z68 31)) := k2.alloc _
      have hX4 := hX3.alloc (.cells Z68 31)
      have hR4 := hR3.alloc (.cells Z68 31)
      have hG4 := hG3.alloc (.cells Z68 31)
      have lX := hX3.1
      have lR := hR3.1
      have lG := hG3.1
      have hs2 := k2.size
      obtain ⟨P, hP⟩ : ∃ P, P = FZ 4562146422526312448 := ⟨_, rfl⟩
      have iP := in10
      rw [← hP] at HOK iP
      rw [← hP]
      clear hP hX3 hR3 hG3 k2
      generalize w2.alloc (.cells Z68 31) = W at *
      generalize w2.heap.size = A at *
      refine wpList_store_mid rfl 31 _ _ rfl A 0 (digsL P).toArray rfl rfl (a1.there2 _) (size31A _) (digsL_one _) ?_
      have b1 := arr_setCells a1 P
      have f5 := (frm_setCells A (digsL P) 0 W).1
      have HX5 := hid (hX4.frame f5 (by simp; omega))
      have HR5 := hid (hR4.frame f5 (by simp; omega))
      have HG5 := hid (hG4.frame f5 (by simp; omega))
      have HK5 := hid (k3.seq (U := []) f5 (by simp) (by simp; omega))
      have HB5 := hid b1
      generalize W.setCells A 0 (digsL P) = W1 at *
      clear a1 b1 f5 hX4 hR4 hG4 k3 hG
      obtain ⟨F, hF⟩ : ∃ F, F = blF q n (intF zs) (chF n) := ⟨_, rfl⟩
      rw [← hF] at HOK HBG HG5
      clear hF
      go_wp2_with fail
      go_loopw [4, 11, 12, 13] (fun _ i _ _ wr => ∃ j : Nat, i = .int .i64 (j : Int) ∧ j ≤ n + 256 ∧ Own CV wr X n (intF zs) ∧ Own CV wr R n (rootF n) ∧ Own CV wr G n F ∧ Arr wr A 0 (dg P) ∧ Frm [] w wr) (fun _ i _ _ _ => n - (intOf i).toNat)
      case atStart => exact ⟨0, rfl, by omega, HX5.out, HR5.out, HG5.out, HB5.out, HK5.out⟩
      case round =>
        obtain ⟨j, rfl, hjb, hX, hR, hG, hA, hK⟩ := hrel
        by_cases hlt2 : j < n
        · have q0 := hid (cacc_new wr)
          have HX6 := hid (hX.alloc (.cells Z136 72))
          have HR6 := hid (hR.alloc (.cells Z136 72))
          have HG6 := hid (hG.alloc (.cells Z136 72))
          have HA6 := hid (hA.alloc (.cells Z136 72))
          have HK6 := hid (show Frm [] w (wr.alloc (.cells Z136 72)) from hK.alloc _)
          have l1 := hX.1
          have l2 := hR.1
          have l3 := hG.1
          have l4 := hA.1
          have l5 := hK.size
          clear hX hR hG hA hK HX5 HR5 HG5 HB5 HK5
          go_wp2_with fail
          generalize wr.alloc (.cells Z136 72) = W2 at *
          generalize wr.heap.size = C at *
          go_loopw [13] (fun i wl => ∃ k : Nat, k ≤ n ∧ i = .int .i64 (k : Int) ∧ CAcc wl C 0 (exR (intF zs) (fun i => rootF n (i * j % n)) k) (exI (intF zs) (fun i => rootF n (i * j % n)) k) ∧ Own CV wl X n (intF zs) ∧ Own CV wl R n (rootF n) ∧ Own CV wl G n F ∧ Arr wl A 0 (dg P) ∧ Frm [] w wl) (fun i _ => n - (intOf i).toNat)
          case atStart => exact ⟨0, Nat.zero_le _, rfl, q0.out, HX6.out, HR6.out, HG6.out, HA6.out, HK6.out⟩
          case round =>
            obtain ⟨k2, hk2, rfl, hs, hX, hR, hG, hA, hK⟩ := hrel
            by_cases hlk : k2 < n
            · obtain ⟨p, hp⟩ : ∃ p, p = k2 * j := ⟨_, rfl⟩
              obtain ⟨m, hm⟩ : ∃ m, m = p % n := ⟨_, rfl⟩
              have hmn : m < n := by rw [hm]; exact Nat.mod_lt _ (by omega)
              have p1 : (k2 : Int) * (j : Int) = (p : Int) := by rw [hp]; simp
              have p2' : p ≤ 1024 * 1024 := by rw [hp]; exact Nat.mul_le_mul (by omega) (by omega)
              have p3 : (p : Int).tmod (n : Int) = (m : Int) := by rw [Int.tmod_eq_emod_of_nonneg (by omega), hm]; simp
              have nz := (HBF.out k2 hlk).nm
              have nw := (root_near h0 (show n ≤ 2048 by omega) hmn).1.nm
              have c1 := hX.cell hlk
              have c2 := hR.cell hmn
              have ham := caccAddMul_any C 0 (intF zs k2) (rootF n m) _ _ wr.drew nz.l1 nz.n1 nz.l2 nz.n2 nw.l1 nw.n1 nw.l2 nw.n2 hs
              have ew : rootF n (k2 * j % n) = rootF n m := by rw [← hp, ← hm]
              have b1 : (0 : Int) ≤ (m : Int) := by omega
              have b2 : (m : Int) < (n : Int) := by omega
              have b3 : (0 : Int) ≤ (k2 : Int) := by omega
              have b4 : (k2 : Int) < (n : Int) := by omega
              have b5 : IntKind.i64.wrap (p : Int) = (p : Int) := by rw [IntKind.wrap_i64]; omega
              have b6 : (m : Int).toNat = m := by omega
              have b7 : (k2 : Int).toNat = k2 := by omega
              have HAM := hid ham
              have HEW := hid ew
              have HX7 := hid hX
              have HR7 := hid hR
              have HG7 := hid hG
              have HA7 := hid hA
              have HK7 := hid hK
              clear hs hX hR hG hA hK ham ew nz nw hp hm HX6 HR6 HG6 HA6 HK6 q0
              go_wp2_with fail
              go_region_with (go_at_call 60; refine Calls.mono HAM.out ?_; rintro e w1 ⟨rfl, hc, hob⟩)
              all_goals
                have hc' : CAcc w1 C 0 (exR (intF zs) (fun i => rootF n (i * j % n)) (k2 + 1)) (exI (intF zs) (fun i => rootF n (i * j % n)) (k2 + 1)) := by
                  show CAcc w1 C 0 (exR (intF zs) (fun i => rootF n (i * j % n)) k2 + PZ (intF zs k2).1 (rootF n (k2 * j % n)).1 + PZ (fneg (intF zs k2).2) (rootF n (k2 * j % n)).2) (exI (intF zs) (fun i => rootF n (i * j % n)) k2 + PZ (intF zs k2).1 (rootF n (k2 * j % n)).2 + PZ (intF zs k2).2 (rootF n (k2 * j % n)).1)
                  rw [HEW.out]; exact hc
                have HC := hid hc'
                have HX8 := hid (HX7.out.drew.frame hob.1 (by simp; omega))
                have HR8 := hid (HR7.out.drew.frame hob.1 (by simp; omega))
                have HG8 := hid (HG7.out.drew.frame hob.1 (by simp; omega))
                have HA8 := hid (Arr.frame (show Arr wr.drew A 0 (dg P) from HA7.out) hob.1 (by simp; omega))
                have HK8 := hid (HK7.out.drew.seq (U := []) hob.1 (by simp) (by simp; omega))
                clear hc hc' hob HX7 HR7 HG7 HA7 HK7 HAM HEW c1 c2
                go_wp2
                go_roundw
                case rel => exact ⟨k2 + 1, by omega, by go_num, HC.out, HX8.out, HR8.out, HG8.out, HA8.out, HK8.out⟩
                case measure => simp [intOf]; omega
            · have e : k2 = n := by omega
              subst e
              have ng := HBG.out j hlt2
              obtain ⟨o1, o2⟩ := HOK.out j hlt2
              have c1 := hG.cell hlt2
              have hfin := finiteC_any (F j) ng.l1 ng.n1 ng.l2 ng.n2
              have HX7 := hid hX
              have HR7 := hid hR
              have HG7 := hid hG
              have HA7 := hid hA
              have HK7 := hid hK
              have HS := hid hs
              have Ho1 := hid o1
              have Ho2 := hid o2
              have Hng := hid ng
              clear hs hX hR hG hA hK o1 o2 ng HX6 HR6 HG6 HA6 HK6 q0 HOK HBG HBF
              go_wp2_with fail
              refine (caccSub_any C 0 (F j) _ _ wr Hng.out.l1 Hng.out.n1 Hng.out.l2 Hng.out.n2 HS.out).mono ?_
              rintro e w1 ⟨rfl, z1, ob⟩
              have hX8 := HX7.out.frame ob.1 (by simp; omega)
              have hR8 := HR7.out.frame ob.1 (by simp; omega)
              have hG8 := HG7.out.frame ob.1 (by simp; omega)
              have hA8 := HA7.out.frame ob.1 (by simp; omega)
              have hK8 := HK7.out.seq (U := []) ob.1 (by simp) (by simp; omega)
              have c2 := hG8.cell hlt2
              have HZ := hid z1
              have HX8 := hid hX8
              have HR8 := hid hR8
              have HG8 := hid hG8
              have HA8 := hid hA8
              have HK8 := hid hK8
              clear HS HX7 HR7 HG7 HA7 HK7 ob c1 z1 hX8 hR8 hG8 hA8 hK8
              go_wp2_with (first | (go_at_call 52; refine same_mono (hfin _) ?_))
              refine (within_any C 0 A 0 _ _ P w1 Ho1.out.i Ho1.out.a Ho2.out.i Ho2.out.a iP HZ.out HA8.out Ho1.out.le Ho2.out.le).mono ?_
              rintro e w2 ⟨rfl, f2⟩
              have HX9 := hid (HX8.out.frame f2 (by simp))
              have HR9 := hid (HR8.out.frame f2 (by simp))
              have HG9 := hid (HG8.out.frame f2 (by simp))
              have HA9 := hid (HA8.out.frame f2 (by simp))
              have HK9 := hid (HK8.out.trans f2)
              clear f2 HX8 HR8 HG8 HA8 HK8 HZ Ho1 Ho2 c2
              go_wp2
              go_roundw
              case rel => exact ⟨j + (st + 1), by go_num, by omega, HX9.out, HR9.out, HG9.out, HA9.out, HK9.out⟩
              case measure => simp [intOf]; omega
        · have HK := hid hK
          clear hX hR hG hA hK
          go_wp2
          go_ret
          exact ⟨rfl, HK.out⟩
theorem anyNear_int (a : Option Addr) (n0 cap : Nat) (zs : Nat → Int) (st : Int) (w : World) (h0 : 0 ≤ st) (h1 : st < 256) (hn0 : n0 * 2 ≤ 140737488351232) (hr : InRow .i16 w a n0 zs) (hzs : ∀ i, i < n0 → (zs i).natAbs ≤ 32768) :
    Calls Tafg.prog 12 #[.slice a n0 cap, .int .u8 st] w fun e w' => e = .returned (.bool true) ∧ Frm [] w w' := by
  obtain ⟨k, rfl⟩ : ∃ k : Nat, st = (k : Int) := ⟨st.toNat, by omega⟩
  exact anyNear_any a n0 cap zs k w (by omega) hn0 hr hzs
end Go.Proofs.Ygctaf
