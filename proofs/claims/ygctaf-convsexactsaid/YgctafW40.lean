/-
  WALKS: fftx.forward, fftx.convolve, Convolve4, ConvolveSplit.
-/
import Derived.Test.YgctafCvx
import Derived.BigRegion
import Derived.Deep.RegionWith
namespace Go.Proofs.Ygctaf
open Go.RowKit Ieee
attribute [local go_sem] run_store_complex run_store_float CV_eq FV_eq

theorem nearF_of_near2 {x : Nat} {N : Int} (hx : Num x) (h : (V x - (N : Rat)).abs ≤ 6/25) (hN : N.natAbs ≤ 2 ^ 50) : nearF x = (N, true) := by
  have hN1 : (N : Rat) ≤ p2 50 ∧ -p2 50 ≤ (N : Rat) := by
    have a1 : N ≤ ((2 ^ 50 : Nat) : Int) := by omega
    have a2 : -((2 ^ 50 : Nat) : Int) ≤ N := by omega
    have b1 := Rat.intCast_le_intCast.2 a1
    have b2 := Rat.intCast_le_intCast.2 a2
    rw [Rat.intCast_neg] at b2
    rw [show p2 50 = (((2 ^ 50 : Nat) : Int) : Rat) from p2_nat 50]
    exact ⟨b1, b2⟩
  have h' := abs_le.1 h
  have hin : inB x = true := by
    rw [inB_iff]
    have e1 : p2 50 + 1 < p2 52 := by decide +kernel
    exact ⟨hx, by grind, by grind⟩
  obtain ⟨_, f1, f2, _⟩ := ftoi_spec hx
  have fs := ftoi_small hin
  have key : ∀ r : Int, r.natAbs ≤ 2 ^ 53 → (V x - (r : Rat)).abs < 2 → Num (fsub x (fint r)) ∧ (V (fsub x (fint r)) - (V x - (r : Rat))).abs ≤ 1/1000 := by
    intro r hr h2
    have hi := fint_rounded r hr
    have h3 : (2 : Rat) < p2 1023 := by decide +kernel
    have h4 : (V x - V (fint r)).abs < p2 1023 := by rw [hi.2]; grind
    have hs := sub_rounded hx hi.1.num h4
    rw [hi.2] at hs
    refine ⟨hs.num, Rat.le_trans (hs.half 1 (by decide) (by rw [p2_one]; exact h2)) (by decide +kernel)⟩
  generalize hr : ftoi x = r at *
  have hq : ∀ r2 : Int, r2 = N → quarterB (fsub x (fint r2)) = true := by
    intro r2 e
    subst e
    obtain ⟨k1, k2⟩ := key r2 (by omega) (by grind)
    rw [quarterB_iff]
    refine ⟨k1, ?_⟩
    have e3 : p2 (-2) = 1/4 := by decide +kernel
    rw [e3]
    have := abs_le.1 k2
    exact abs_le.2 ⟨by grind, by grind⟩
  obtain ⟨k1, k2⟩ := key r (by omega) (by grind)
  have k3 := abs_le.1 k2
  have e5 : p2 (-1) = 1/2 := by decide +kernel
  have hg : geB (fsub x (fint r)) 4602678819172646912 = true ↔ 1/2 ≤ V (fsub x (fint r)) := by rw [geB_iff k1 c05.1, c05.2, e5]
  have hl : leB (fsub x (fint r)) 13826050856027422720 = true ↔ V (fsub x (fint r)) ≤ -(1/2) := by rw [leB_iff k1 n05.1, n05.2, e5]
  have f1' : -1 < V x - (r : Rat) ∧ V x - (r : Rat) < 1 := by
    by_cases g : 0 ≤ V x - (r : Rat)
    · rw [Rat.abs_of_nonneg g] at f1; grind
    · rw [Rat.abs_of_nonpos (by grind)] at f1; grind
  have hc : r = N ∨ r = N - 1 ∨ r = N + 1 := by
    have a1 : (r : Rat) < ((N + 2 : Int) : Rat) := by rw [Rat.intCast_add, show ((2 : Int) : Rat) = 2 from rfl]; grind
    have a2 : ((N - 2 : Int) : Rat) < (r : Rat) := by rw [Rat.intCast_sub, show ((2 : Int) : Rat) = 2 from rfl]; grind
    have b1 := Rat.intCast_lt_intCast.1 a1
    have b2 := Rat.intCast_lt_intCast.1 a2
    omega
  unfold nearF
  rw [if_pos hin, hr]
  dsimp only
  rcases hc with rfl | rfl | rfl
  · have g1 : geB (fsub x (fint r)) 4602678819172646912 = false := by rw [Bool.eq_false_iff]; intro hh; rw [hg] at hh; grind
    have g2 : leB (fsub x (fint r)) 13826050856027422720 = false := by rw [Bool.eq_false_iff]; intro hh; rw [hl] at hh; grind
    rw [g1, g2]
    simp only [Bool.false_eq_true, if_false]
    rw [hq r rfl]
  · rw [Rat.intCast_sub, show ((1 : Int) : Rat) = 1 from rfl] at k3
    have g1 : geB (fsub x (fint (N - 1))) 4602678819172646912 = true := by rw [hg]; grind
    have g2 : leB (fsub x (fint (N - 1))) 13826050856027422720 = false := by rw [Bool.eq_false_iff]; intro hh; rw [hl] at hh; grind
    rw [g1, g2]
    simp only [Bool.false_eq_true, if_false, if_true]
    rw [hq (N - 1 + 1) (by omega), show N - 1 + 1 = N from by omega]
  · rw [Rat.intCast_add, show ((1 : Int) : Rat) = 1 from rfl] at k3
    have g1 : geB (fsub x (fint (N + 1))) 4602678819172646912 = false := by rw [Bool.eq_false_iff]; intro hh; rw [hg] at hh; grind
    have g2 : leB (fsub x (fint (N + 1))) 13826050856027422720 = true := by rw [hl]; grind
    rw [g1, g2]
    simp only [Bool.false_eq_true, if_false, if_true]
    rw [hq (N + 1 - 1) (by omega), show N + 1 - 1 = N from by omega]

theorem quarter_small2 {x : Nat} (hx : Num x) (h : (V x).abs ≤ 6/25) : quarterB x = true := by
  rw [quarterB_iff]
  exact ⟨hx, Rat.le_trans h (by decide +kernel)⟩
/-- Points near the convolution: Nearest gives it, surely. -/
theorem cvs_sure {n la lb : Nat} {za zb : Nat → Int} {R : Nat → Nat × Nat} (ha1 : 1 ≤ la) (hb1 : 1 ≤ lb) (ha2 : la ≤ 512) (va : ∀ i, i < la → 0 ≤ za i ∧ za i ≤ 255) (vb : ∀ i, i < lb → 0 ≤ zb i ∧ zb i ≤ 255)
    (h : ∀ i, i < n → Nm (R i) ∧ Len ((cv (R i)).sub (rC (convZ za zb lb la i))) (6/25)) :
    (∀ i, i < n → nearF (R i).1 = (convZ za zb lb la i, true)) ∧ ∀ t, t ≤ n → sureF R (la + lb - 1) t = true := by
  have h1 : ∀ i, i < n → nearF (R i).1 = (convZ za zb lb la i, true) := fun i hi => by
    obtain ⟨g, l⟩ := h i hi
    have := convZ_bd za zb la lb va vb i la (Nat.le_refl _)
    exact nearF_of_near2 g.n1 l.parts.1 (by omega)
  refine ⟨h1, ?_⟩
  intro t
  induction t with
  | zero => intro _; rfl
  | succ t ih =>
    intro ht
    obtain ⟨g, l⟩ := h t (by omega)
    have g1 : (V (R t).1 - (convZ za zb lb la t : Rat)).abs ≤ 6/25 := l.parts.1
    have g2 : (V (R t).2 - 0).abs ≤ 6/25 := l.parts.2
    rw [show V (R t).2 - 0 = V (R t).2 from by grind] at g2
    rw [sureF_succ, ih (by omega), quarter_small2 g.n2 g2]
    unfold okF
    split
    · rw [h1 t (by omega)]; rfl
    · rw [convZ_far za zb lb t la (by omega) hb1] at g1
      have g3 : (V (R t).1 - 0).abs ≤ 6/25 := g1
      rw [show V (R t).1 - 0 = V (R t).1 from by grind] at g3
      rw [quarter_small2 g.n1 g3]; rfl

set_option maxHeartbeats 1000000 in
theorem forwardx_any (sp : Bool) (b n cap tb h tcap k : Nat) (e : Int) (L : Rat) (f : Nat → Nat × Nat) (w : World) (ho : TabOk k h) (hn : n = 2 ^ k) (hh : n = 2 * h)
    (hne : tb ≠ b) (hT : Own CV w tb h (tabF k)) (hX : Own CV w b n f) (he0 : 0 ≤ e) (he1 : e ≤ 600) (hL : p2 (-1015) ≤ L) (hF : ∀ i, i < n → Bd e (f i)) (hf : ∀ i, i < n → Len (cv (f i)) L) :
    Calls Tafg.prog 116 #[.slice (some ⟨b, 0, none⟩) n cap, .slice (some ⟨tb, 0, none⟩) h tcap, .bool sp] w fun r w' =>
      r = .returned (.tuple #[]) ∧ (∃ g, Own CV w' b n g ∧ Fw k f L (e + 88) g) ∧ Frm [b] w w' ∧ w'.heap.size = w.heap.size := by
  have HF := hid (fun g (hg : Lev k (fun i => cv (f i)) L e n k g) => Fw.of ⟨ho.k1, ho.k2⟩ hn hL hf hg)
  cases sp
  · have HC := hid (forward4_any b n cap tb h tcap k e L f w ho hn hh hne hT hX he0 (by omega) hL hF hf)
    clear ho hn hh hne hT hX he0 he1 hL hF hf
    go_enter Tafg.func116, Tafg.ntmps116
    go_wp2_with fail
    refine Calls.mono HC.out ?_
    rintro r w1 ⟨rfl, ⟨g, h1, h2⟩, h3, h4⟩
    have h5 := HF.out g h2
    clear h2 HF HC
    go_wp2
    go_end0
    exact ⟨rfl, ⟨g, h1, h5⟩, h3, h4⟩
  · have HC := hid (forwardSplit_any b n cap tb h tcap k e L f w ho hn hh hne hT hX he0 he1 hL hF hf)
    clear ho hn hh hne hT hX he0 he1 hL hF hf
    go_enter Tafg.func116, Tafg.ntmps116
    go_wp2_with fail
    refine Calls.mono HC.out ?_
    rintro r w1 ⟨rfl, ⟨g, h1, h2⟩, h3, h4⟩
    have h5 := HF.out g h2
    clear h2 HF HC
    go_wp2
    go_end0
    exact ⟨rfl, ⟨g, h1, h5⟩, h3, h4⟩
end Go.Proofs.Ygctaf
