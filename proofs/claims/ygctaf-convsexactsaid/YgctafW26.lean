/-
  WALK: fftx.pairsOf
-/
import Derived.Test.YgctafSpl
namespace Go.Proofs.Ygctaf
open Go.RowKit
attribute [local go_sem] run_store_complex run_store_float CV_eq FV_eq

set_option maxRecDepth 20000 in
set_option maxHeartbeats 2000000 in
theorem pairsOf_any (b n cap h k : Nat) (e : Int) (c L : Rat) (x : Nat → Cx) (g0 : Nat → Nat × Nat) (w : World) (hk : 1 ≤ k) (hn : n = 2 * h) (h0 : 0 < h) (hh : h ≤ 1024)
    (hX : Own CV w b n g0) (he0 : 0 ≤ e) (he1 : e ≤ 800) (hc : c + 4 ≤ 1000) (hA : ∀ i, i < n → At k x L e c 0 (g0 i) i) :
    Calls Tafg.prog 92 #[.slice (some ⟨b, 0, none⟩) n cap] w fun r w' =>
      r = .returned (.tuple #[]) ∧ (∃ g, Own CV w' b n g ∧ SpLev k x L (e + 2) (c + 4) n 0 g) ∧ Frm [b] w w' ∧ w'.heap.size = w.heap.size := by
  have HX := hid hX
  have HA := hid hA
  have HC := hid hc
  have HN := hid hn
  have hnb : n ≤ 2048 := by omega
  have hn0 : 0 < n := by omega
  clear hX hA hc hn
  go_enter Tafg.func92, Tafg.ntmps92
  go_wp2
  go_loopw [3, 4, 5] (fun s gp _ wr => ∃ r G ss : Nat, s = .int .i64 (ss : Int) ∧ gp = .int .i64 (2 * (G : Int)) ∧ ss + 2 = G ∧ G = 4 ^ r * 2 ∧ G ≤ 4 * n ∧ (∃ g, Own CV wr b n g ∧ StP k x L e c n r ss g) ∧ Frm [b] w wr ∧ wr.heap.size = w.heap.size) (fun s _ _ _ => n - (intOf s).toNat)
  case atStart => exact ⟨0, 2, 0, rfl, rfl, rfl, rfl, by omega, ⟨g0, HX.out, StP.start HA.out⟩, Frm.refl _ _, rfl⟩
  case round =>
    obtain ⟨r, G, ss, rfl, rfl, hss, hG, hGn, ⟨g, hown, hst⟩, hfr, hsz⟩ := hrel
    have hGe : G % 2 = 0 := by rw [hG]; omega
    have hne : n % 2 = 0 := by have := HN.out; omega
    have HG := hid hG
    clear hG
    by_cases hlt : ss + 1 < n
    · have d0 : (ss : Int) < (n : Int) - 1 := by omega
      obtain ⟨m0, hm0, hmS⟩ := run_first HG.out
      have hms : ss = m0 * 2 := by omega
      have HOWN := hid hown
      have HS := hid hst
      have HFR := hid hfr
      have HSZ := hid hsz
      have HM0 := hid hm0
      have HMS := hid hms
      clear hown hst hfr hsz hm0 hmS hms
      go_wp2
      go_loopw [5] (fun i wi => ∃ d m ii : Nat, i = .int .i64 (ii : Int) ∧ ii = m * 2 ∧ ii ≤ n + 2 * G ∧ ss ≤ ii ∧ m + 1 = 4 ^ r * (2 * d + 1) ∧ (∃ g, Own CV wi b n g ∧ StP k x L e c n r ii g) ∧ Frm [b] w wi ∧ wi.heap.size = w.heap.size) (fun i _ => n - (intOf i).toNat)
      case atStart => exact ⟨0, m0, ss, rfl, HMS.out, by omega, Nat.le_refl _, HM0.out, ⟨g, HOWN.out, HS.out⟩, HFR.out, HSZ.out⟩
      case round =>
        clear HOWN HS HFR HSZ HM0 HMS m0
        obtain ⟨d, m, ii, rfl, hii, hib, hsi, hm, ⟨g, hown, hst⟩, hfr, hsz⟩ := hrel
        by_cases hil : ii + 1 < n
        · have d1 : (ii : Int) < (n : Int) - 1 := by omega
          subst hii
          obtain ⟨aA, aB⟩ := hst.at hm hil
          obtain ⟨o0, o1⟩ := At.pair (s := m) hk (by omega) he0 he1 HC.out aA aB
          have c0 := hown.cell (i := m * 2) (by omega)
          have c1 := hown.cell (i := m * 2 + 1) (by omega)
          have f0 := hown.free (i := m * 2) (by omega)
          have f1 := hown.free (i := m * 2 + 1) (by omega)
          have ra := run_cadd aA.bd aB.bd
          have rs := run_csub aA.bd aB.bd
          obtain ⟨m', hm', hmS'⟩ := run_step HG.out hm
          have st' := hst.step HG.out hm o0 o1
          clear o0 o1 aA aB
          have hmS2 : m * 2 + 2 * G = m' * 2 := by omega
          have HMS2 := hid hmS2
          have HM' := hid hm'
          clear hmS' hmS2 hm' hm
          generalize g (m * 2) = A at *
          generalize g (m * 2 + 1) = B at *
          generalize cadd A B = v0 at *
          generalize csub A B = v1 at *
          have own2 := (hown.setCell (i := m * 2) (by omega) v0).setCell (i := m * 2 + 1) (by omega) v1
          generalize m * 2 = ii at *
          have i1 : (0 : Int) ≤ (ii : Int) := by omega
          have i2 : (ii : Int) < (n : Int) := by omega
          have i3 : (0 : Int) ≤ (ii : Int) + 1 := by omega
          have i4 : (ii : Int) + 1 < (n : Int) := by omega
          have t1 : ((ii : Int) + 1).toNat = ii + 1 := by omega
          have w1 : IntKind.i64.wrap ((ii : Int) + 1) = (ii : Int) + 1 := by rw [IntKind.wrap_i64]; omega
          have HOW := hid own2
          have HST := hid st'
          have HFR := hid hfr
          have HSZ := hid hsz
          clear own2 st' hst hown hfr hsz
          go_wp2
          go_region
          go_wp2
          go_roundw
          case rel => exact ⟨d + 1, m', ii + 2 * G, by go_num, HMS2.out, by omega, by omega, HM'.out, ⟨_, HOW.out.drew, HST.out⟩, ((HFR.out.setCell (.inl (by simp)) _).setCell (.inl (by simp)) _).drew, by simpa using HSZ.out⟩
          case measure => simp [intOf]; omega
        · have d1 : ¬ ((ii : Int) < (n : Int) - 1) := by omega
          have HST := hid (hst.next HG.out (by omega))
          have HOW := hid hown
          have HFR := hid hfr
          have HSZ := hid hsz
          have hG4 : 4 * G = 4 ^ (r + 1) * 2 := by rw [HG.out, Nat.pow_succ]; omega
          have HG4 := hid hG4
          clear hst hown hfr hsz hG4 hm hii
          go_wp2
          go_roundw
          case rel => exact ⟨r + 1, 4 * G, 4 * G - 2, by go_num, by go_num, by omega, HG4.out, by omega, ⟨g, HOW.out, HST.out⟩, HFR.out, HSZ.out⟩
          case measure => simp [intOf]; omega
    · have d0 : ¬ ((ss : Int) < (n : Int) - 1) := by omega
      have hsG : ss = G - 2 := by omega
      have HC' : c + 4 ≤ 1024 := by have := HC.out; grind
      have HST := hid ((hsG ▸ hst).fin HG.out (by omega) HC')
      have HOW := hid hown
      have HFR := hid hfr
      have HSZ := hid hsz
      clear hst hown hfr hsz hsG HC'
      go_wp2
      go_end0
      exact ⟨rfl, ⟨g, HOW.out, HST.out⟩, HFR.out, HSZ.out⟩
end Go.Proofs.Ygctaf
