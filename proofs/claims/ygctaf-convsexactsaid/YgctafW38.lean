/-
  WALKS: fftx.ForwardAny, fftx.inverse, fftx.InverseAny.
-/
import Derived.Test.YgctafW37
namespace Go.Proofs.Ygctaf
open Go.RowKit Ieee
attribute [local go_sem] run_store_complex run_store_float CV_eq FV_eq

theorem blF_bd {q n : Nat} {e : Int} {x r : Nat → Nat × Nat} (hq : q ≤ 10) (hN : 2 * n ≤ 2 ^ (q + 1) + 1) (he0 : 0 ≤ e) (he1 : e ≤ 500) (bx : ∀ i, i < n → Bd e (x i)) (br : ∀ i, i < n → Bd 1 (r i)) :
    ∀ j, j < n → Bd (e + 211) (blF q n x r j) := fun j hj => by
  have hjN : j < 2 ^ (q + 1) := by omega
  have hh : (q + 1) = 0 ∨ 2 ^ (q + 1) = 2 * 2 ^ q := .inr (by rw [Nat.pow_succ, Nat.mul_comm])
  have tb := tabF_bd q hq
  have hB1 : ∀ i, i < 2 ^ (q + 1) → Bd (e + 70) (fwdF (q + 1) (tabF (q + 1)) (blY n x r) i) := fun i hi =>
    (fwdF_bd (by omega) (by omega) (by omega) hh tb (fun i _ => blY_bd he0 (by omega) bx br i) i hi).mono (by omega)
  have hB2 : ∀ i, i < 2 ^ (q + 1) → Bd 67 (fwdF (q + 1) (tabF (q + 1)) (blC n (2 ^ (q + 1)) r) i) := fun i hi =>
    (fwdF_bd (by omega) (by omega) (by omega) hh tb (fun i hi2 => blC_bd br i hi2) i hi).mono (by omega)
  have hbP : ∀ i, i < 2 ^ (q + 1) → Bd (e + 140) (blP q n x r i) := fun i hi => ((hB1 i hi).mul (hB2 i hi) (by omega) (by omega)).mono (by omega)
  have hI := invF_bd (by omega) (by omega) (by omega) hh tb hbP j hjN
  exact (hI.mul (br j hj) (by omega) (by omega)).mono (by omega)

set_option maxHeartbeats 1000000 in
theorem forwardAny_any (xb xcap n q : Nat) (e : Int) (x : Nat → Nat × Nat) (w : World) (h0 : 0 < n) (hn : n ≤ 1024) (hq : q ≤ 10) (hlv : IsLvl (2 * n - 1) q)
    (hx : Own CV w xb n x) (he0 : 0 ≤ e) (he1 : e ≤ 500) (bx : ∀ i, i < n → Bd e (x i)) :
    Calls Tafg.prog 63 #[.slice (some ⟨xb, 0, none⟩) n xcap] w fun e w' =>
      ∃ B, e = .returned (.slice (some ⟨B, 0, none⟩) n n) ∧ w.heap.size ≤ B ∧ Own CV w' B n (blF q n x (chF n)) ∧ Frm [] w w' := by
  have HC := hid (chirp_any n h0 hn w)
  have HX := hid hx
  clear hx
  go_enter Tafg.func63, Tafg.ntmps63
  go_wp2_with fail
  refine Calls.mono HC.out ?_
  rintro e1 w1 ⟨rfl, hr, f1⟩
  have hx1 := HX.out.frame f1 (by simp)
  have hs := f1.size
  go_wp2_with fail
  refine (bluestein_any xb xcap w.heap.size n n q (2 ^ (q + 1)) e x (chF n) w1 h0 hn hq hlv rfl hx1 hr he0 he1 bx (fun i _ => chF_bd h0 hn)).mono ?_
  rintro e2 w2 ⟨B, rfl, hB, hown, f2⟩
  have fr := f1.trans f2
  clear hr hx1 f1 f2
  go_wp2
  go_ret
  exact ⟨B, rfl, by omega, hown, fr⟩
theorem forwardAny_nil (w : World) : Calls Tafg.prog 63 #[.slice none 0 0] w fun e w' => e = .returned (.slice none 0 0) ∧ w' = w := by
  go_enter Tafg.func63, Tafg.ntmps63
  go_wp2
  go_ret
  exact ⟨rfl, rfl⟩
theorem inverseAny_nil (w : World) : Calls Tafg.prog 64 #[.slice none 0 0] w fun e w' => e = .returned (.slice none 0 0) ∧ w' = w := by
  go_enter Tafg.func64, Tafg.ntmps64
  go_wp2
  go_ret
  exact ⟨rfl, rfl⟩

/-- The quotient and the conjugate. -/
def cdivc (n : Nat) (z : Nat × Nat) : Nat × Nat := (fdiv z.1 (fint (n : Int)), fneg (fdiv z.2 (fint (n : Int))))
/-- fftx.inverse -/
def iaF (q n : Nat) (x r : Nat → Nat × Nat) (j : Nat) : Nat × Nat := cdivc n (blF q n (fun i => cconj (x i)) r j)

set_option maxRecDepth 20000 in
set_option maxHeartbeats 2000000 in
theorem inverseX_any (xb xcap rb rcap n q : Nat) (e : Int) (x r : Nat → Nat × Nat) (w : World) (h0 : 0 < n) (hn : n ≤ 1024) (hq : q ≤ 10) (hlv : IsLvl (2 * n - 1) q)
    (hx : Own CV w xb n x) (hr : Own CV w rb n r) (he0 : 0 ≤ e) (he1 : e ≤ 500) (bx : ∀ i, i < n → Bd e (x i)) (br : ∀ i, i < n → Bd 1 (r i)) :
    Calls Tafg.prog 103 #[.slice (some ⟨xb, 0, none⟩) n xcap, .slice (some ⟨rb, 0, none⟩) n rcap] w fun e w' =>
      ∃ B, e = .returned (.slice (some ⟨B, 0, none⟩) n n) ∧ w.heap.size ≤ B ∧ Own CV w' B n (iaF q n x r) ∧ Frm [] w w' := by
  have hmk := make_c n (by omega)
  have hnN : 2 * n ≤ 2 ^ (q + 1) + 1 := by have := hlv.1; omega
  have HBD := hid (blF_bd (x := fun i => cconj (x i)) (r := r) hq hnN he0 he1 (fun i hi => Bd.conj (bx i hi)) br)
  have HX := hid hx
  have HR := hid hr
  have HBX := hid bx
  have HBR := hid br
  have HLV := hid hlv
  have hfi := floatOfInt_eq (n : Int)
  obtain ⟨fb, fv⟩ := fintN_val n (by omega)
  have hne : V (fint (n : Int)) ≠ 0 := by rw [fv]; exact Rat.ne_of_gt (Rat.natCast_pos.2 h0)
  have HFB := hid fb
  have HNE := hid hne
  have hxs := hx.1
  have hrs := hr.1
  clear hx hr bx br hlv hnN fb fv hne
  go_enter Tafg.func103, Tafg.ntmps103
  go_wp2
  go_loopw [7] (fun i wr => ∃ k : Nat, k ≤ n ∧ i = .int .i64 k ∧ Own CV wr w.heap.size n (fun j => if j < k then cconj (x j) else (0, 0)) ∧ Frm [] w wr) (fun i _ => n - (intOf i).toNat)
  case atStart => exact ⟨0, Nat.zero_le _, rfl, by simpa using Own.madeC, (Frm.refl _ _).alloc _⟩
  case round =>
    obtain ⟨k, hk, rfl, hown, hfr⟩ := hrel
    by_cases hlt : k < n
    · have c1 := (HX.out.frame hfr (by simp)).cell hlt
      have c3 := hown.cell hlt
      have c4 := hown.free hlt
      have hcj := conj_any (x k)
      have HST := hid (hown.step (f := fun j => cconj (x j)) hlt (v := CV (cconj (x k))) rfl)
      have HFR := hid hfr
      clear hown hfr
      go_wp2_with (first | (go_at_call 75; refine same_mono (hcj _) ?_))
      go_roundw
      case rel => exact ⟨k + 1, hlt, by go_num, HST.out, HFR.out.setCell (.inr (Nat.le_refl _)) _⟩
      case measure => simp [intOf]; omega
    · have hX2 := hown.full (f := fun j => cconj (x j)) (by omega)
      have hR2 := HR.out.frame hfr (by simp)
      have hs1 := hfr.size
      have HBL := hid (bluestein_any w.heap.size n rb rcap n q (2 ^ (q + 1)) e (fun j => cconj (x j)) r wr h0 hn hq HLV.out rfl hX2 hR2 he0 he1 (fun i hi => Bd.conj (HBX.out i hi)) HBR.out)
      have HFR := hid hfr
      clear hown hX2 hR2 hfr
      go_wp2_with fail
      refine Calls.mono HBL.out ?_
      rintro e2 w2 ⟨B, rfl, hB, hown, f2⟩
      have HFR2 := hid (HFR.out.trans f2)
      have HO := hid hown
      have hBs := hown.1
      clear HFR HBL hown f2
      obtain ⟨G, hG⟩ : ∃ G, G = blF q n (fun j => cconj (x j)) r := ⟨_, rfl⟩
      rw [← hG] at HO HBD
      have HG := hid hG
      clear hG
      go_wp2
      go_loopw [8] (fun i wr => ∃ k : Nat, k ≤ n ∧ i = .int .i64 k ∧ Own CV wr B n (fun j => if j < k then cdivc n (G j) else G j) ∧ Frm [] w wr) (fun i _ => n - (intOf i).toNat)
      case atStart => exact ⟨0, Nat.zero_le _, rfl, by simpa using HO.out, HFR2.out⟩
      case round =>
        obtain ⟨j, hj, rfl, hown3, hfr3⟩ := hrel
        by_cases hlj : j < n
        · have c1 := hown3.cell hlj
          rw [if_neg (Nat.lt_irrefl j)] at c1
          have c2 := hown3.free hlj
          have bz := HBD.out j hlj
          have r1 := run_fdiv bz.re.num HFB.out.num HNE.out
          have r2 := run_fdiv bz.im.num HFB.out.num HNE.out
          have r3 := run_fneg (fdiv (G j).2 (fint (n : Int)))
          have HST := hid (hown3.step (f := fun j => cdivc n (G j)) hlj (v := CV (fdiv (G j).1 (fint (n : Int)), fneg (fdiv (G j).2 (fint (n : Int))))) rfl)
          have HFR := hid hfr3
          clear hown3 hfr3 bz
          have b5 : (0 : Int) ≤ (j : Int) := by omega
          have b6 : (j : Int) < (n : Int) := by omega
          go_wp2
          go_region
          go_wp2
          go_roundw
          case rel => exact ⟨j + 1, by omega, by go_num, HST.out.drew, (HFR.out.setCell (.inr (by simp; omega)) _).drew⟩
          case measure => simp [intOf]; omega
        · have HST := hid (hown3.full (f := fun j => cdivc n (G j)) (by omega))
          have HFR := hid hfr3
          clear hown3 hfr3
          go_wp2
          go_ret
          refine ⟨B, rfl, by omega, ?_, HFR.out⟩
          have h := HST.out
          rw [HG.out] at h
          exact h

set_option maxHeartbeats 1000000 in
theorem inverseAny_any (xb xcap n q : Nat) (e : Int) (x : Nat → Nat × Nat) (w : World) (h0 : 0 < n) (hn : n ≤ 1024) (hq : q ≤ 10) (hlv : IsLvl (2 * n - 1) q)
    (hx : Own CV w xb n x) (he0 : 0 ≤ e) (he1 : e ≤ 500) (bx : ∀ i, i < n → Bd e (x i)) :
    Calls Tafg.prog 64 #[.slice (some ⟨xb, 0, none⟩) n xcap] w fun e w' =>
      ∃ B, e = .returned (.slice (some ⟨B, 0, none⟩) n n) ∧ w.heap.size ≤ B ∧ Own CV w' B n (iaF q n x (chF n)) ∧ Frm [] w w' := by
  have HC := hid (chirp_any n h0 hn w)
  have HX := hid hx
  clear hx
  go_enter Tafg.func64, Tafg.ntmps64
  go_wp2_with fail
  refine Calls.mono HC.out ?_
  rintro e1 w1 ⟨rfl, hr, f1⟩
  have hx1 := HX.out.frame f1 (by simp)
  have hs := f1.size
  go_wp2_with fail
  refine (inverseX_any xb xcap w.heap.size n n q e x (chF n) w1 h0 hn hq hlv hx1 hr he0 he1 bx (fun i _ => chF_bd h0 hn)).mono ?_
  rintro e2 w2 ⟨B, rfl, hB, hown, f2⟩
  have fr := f1.trans f2
  clear hr hx1 f1 f2
  go_wp2
  go_ret
  exact ⟨B, rfl, by omega, hown, fr⟩
end Go.Proofs.Ygctaf
