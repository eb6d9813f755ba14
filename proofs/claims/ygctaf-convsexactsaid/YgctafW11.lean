/-
  WALKS: fft.Inverse.
-/
import Derived.Test.YgctafW10
namespace Go.Proofs.Ygctaf
open Go.RowKit
attribute [local go_sem] run_store_complex run_store_float CV_eq FV_eq

/-- fft.Inverse -/
def invF (k : Nat) (T f : Nat → Nat × Nat) : Nat → Nat × Nat := fun a => cdivn (2 ^ k) (fwdF k (fun i => cconj (T i)) f a)

theorem invF_bd {k h : Nat} {T f : Nat → Nat × Nat} {e : Int} (hk : k ≤ 11) (h0 : 0 ≤ e) (h1 : e ≤ 800) (hh : k = 0 ∨ 2 ^ k = 2 * h) (hT : ∀ i, i < h → Bd 1 (T i)) (hF : ∀ i, i < 2 ^ k → Bd e (f i)) :
    ∀ a, a < 2 ^ k → Bd (e + 67) (invF k T f a) := fun a ha =>
  ((fwdF_bd hk h0 h1 hh (T := fun i => cconj (T i)) (fun i hi => (hT i hi).conj) hF a ha).divn k hk (by omega) (by omega)).mono (by omega)

theorem run_fdiv {x y : Nat} (hx : Num x) (hy : Num y) (h0 : V y ≠ 0) (t : TypeId) (w : World) : (binOp .quo t (.float .f64 x) (.float .f64 y)).run Tafg.prog w = .ok (.float .f64 (fdiv x y)) w :=
  run_float_arith w .quo t .f64 x y _ (div_some hx hy h0)

set_option maxHeartbeats 2000000 in
theorem inverse_any (b n cap tb h tcap k : Nat) (e : Int) (T f : Nat → Nat × Nat) (w : World) (hk1 : 1 ≤ k) (hk : k ≤ 11) (hn : n = 2 ^ k) (hh : n = 2 * h)
    (hne : tb ≠ b) (hT : Own CV w tb h T) (hf0 : Own CV w b n f) (he0 : 0 ≤ e) (he1 : e ≤ 800) (bT : ∀ i, i < h → Bd 1 (T i)) (bF : ∀ i, i < n → Bd e (f i)) :
    Calls Tafg.prog 20 #[.slice (some ⟨b, 0, none⟩) n cap, .slice (some ⟨tb, 0, none⟩) h tcap] w fun e w' =>
      e = .returned (.bool true) ∧ Own CV w' b n (invF k T f) ∧ Frm [b] w w' := by
  have hfit := fits_two k h hk1 hk (by omega)
  rw [← hh] at hfit
  have hb : n ≤ 2048 := by rw [hn]; exact Nat.pow_le_pow_right (by decide) hk
  have hh2 : h ≤ 1024 := by omega
  have hmk := make_c h (by omega)
  have hfi := floatOfInt_eq (n : Int)
  have hnv := fint_pow_val k hk
  rw [← hn] at hnv
  have hn0 : V (fint (n : Int)) ≠ 0 := by rw [hnv.2]; exact p2_ne _
  have hbd : ∀ a, a < n → Bd (e + 66) (fwdF k (fun i => cconj (T i)) f a) := fun a ha =>
    fwdF_bd hk he0 he1 (.inr (by omega)) (T := fun i => cconj (T i)) (fun i hi => (bT i hi).conj) (fun i hi => bF i (by omega)) a (by omega)
  have HBD := hid hbd
  have HBT := hid bT
  have HBF := hid bF
  have HNE := hid hne
  have HTO := hid hT
  have HFO := hid hf0
  have HN := hid hn
  have HH := hid hh
  have HNV := hid hnv
  have HN0 := hid hn0
  have hbs := hf0.1
  have hts := hT.1
  clear hn hh hbd bF hf0 hT hne bT hnv hn0
  go_enter Tafg.func20, Tafg.ntmps20
  go_wp2_with (first | (go_at_call 74; refine same_mono (hfit _) ?_))
  go_loopw [6] (fun i wr => ∃ k : Nat, k ≤ h ∧ i = .int .i64 k ∧ Own CV wr w.heap.size h (fun j => if j < k then cconj (T j) else (0, 0)) ∧ Frm [] w wr) (fun i _ => h - (intOf i).toNat)
  case atStart => exact ⟨0, Nat.zero_le _, rfl, by simpa using Own.madeC, (Frm.refl _ _).alloc _⟩
  case round =>
    obtain ⟨i, hi, rfl, hown, hfr⟩ := hrel
    by_cases hlt : i < h
    · have c1 := (HTO.out.frame hfr (by simp)).cell hlt
      obtain ⟨old, c3, c4⟩ := hown.get hlt
      have hst := hown.step hlt (v := CV (cconj (T i))) rfl
      have hcj := conj_any (T i)
      have HST := hid hst
      have HFR := hid hfr
      clear hst hown hfr
      go_wp2_with (first | (go_at_call 75; refine same_mono (hcj _) ?_))
      go_roundw
      case rel => exact ⟨i + 1, by omega, by go_num, HST.out, HFR.out.setCell (.inr (Nat.le_refl _)) _⟩
      case measure => simp [intOf]; omega
    · have hown2 := hown.full (by omega)
      have hx := HFO.out.frame hfr (by simp)
      have hfw := forward_any b n cap w.heap.size h h k e (fun i => cconj (T i)) f wr hk1 hk HN.out HH.out (by omega) hown2 hx he0 he1 (fun i hi => (HBT.out i hi).conj) HBF.out
      have HFW := hid hfw
      have HFR := hid hfr
      clear hfw hown2 hx hown hfr
      go_wp2_with (first | (go_at_call 23; refine Calls.mono HFW.out ?_; rintro e w1 ⟨rfl, hown, hfr1, hsz⟩))
      have hfr2 : Frm [b] w w1 := HFR.out.seq hfr1 (by simp) (by simp)
      clear hfr1 hsz HFR HFW
      go_loopw [8] (fun i wr => ∃ k2 : Nat, k2 ≤ n ∧ i = .int .i64 k2 ∧ Own CV wr b n (fun j => if j < k2 then invF k T f j else fwdF k (fun i => cconj (T i)) f j) ∧ Frm [b] w wr) (fun i _ => n - (intOf i).toNat)
      case atStart => exact ⟨0, Nat.zero_le _, rfl, by simpa using hown, hfr2⟩
      case round =>
        obtain ⟨j, hj, rfl, hown3, hfr3⟩ := hrel
        by_cases hlj : j < n
        · have c1 := hown3.cell hlj
          rw [if_neg (Nat.lt_irrefl j)] at c1
          have c2 := hown3.free hlj
          have bz := HBD.out j hlj
          have r1 := run_fdiv bz.re.num HNV.out.1 HN0.out
          have r2 := run_fdiv bz.im.num HNV.out.1 HN0.out
          have hst := hown3.step hlj (v := CV (invF k T f j)) rfl
          have hiv : invF k T f j = (fdiv (fwdF k (fun i => cconj (T i)) f j).1 (fint (n : Int)), fdiv (fwdF k (fun i => cconj (T i)) f j).2 (fint (n : Int))) := by
            unfold invF cdivn; rw [HN.out]
          rw [hiv] at hst
          have HST := hid hst
          have HFR := hid hfr3
          clear hst hown3 hfr3 hown hfr2 bz hiv
          go_wp2
          go_region
          go_wp2
          go_roundw
          case rel => exact ⟨j + 1, by omega, by go_num, HST.out.drew, (HFR.out.setCell (.inl (by simp)) _).drew⟩
          case measure => simp [intOf]; omega
        · have HST := hid (hown3.full (by omega))
          have HFR := hid hfr3
          clear hown3 hfr3 hown hfr2
          go_wp2
          go_ret
          exact ⟨rfl, HST.out, HFR.out⟩
end Go.Proofs.Ygctaf
