/-
  WALKS: tw.Base, tw.Table.
-/
import Derived.Test.YgctafW6
import Derived.Test.YgctafTab
namespace Go.Proofs.Ygctaf
open Go.RowKit
attribute [local go_sem] run_store_complex run_store_float CV_eq FV_eq

set_option maxHeartbeats 1000000 in
theorem base_any (t : Nat) (ht : t ≤ 11) (w : World) :
    Calls Tafg.prog 69 #[.int .u8 (t : Int)] w fun e w' => e = .returned (CV (baseF t)) ∧ w' = w := by
  have : t = 0 ∨ t = 1 ∨ t = 2 ∨ t = 3 ∨ t = 4 ∨ t = 5 ∨ t = 6 ∨ t = 7 ∨ t = 8 ∨ t = 9 ∨ t = 10 ∨ t = 11 := by omega
  rcases this with rfl | rfl | rfl | rfl | rfl | rfl | rfl | rfl | rfl | rfl | rfl | rfl <;>
  · clear ht
    go_enter Tafg.func69, Tafg.ntmps69
    go_wp2
    go_ret
    exact ⟨rfl, rfl⟩

theorem tab_start {w : World} {B h k bb blk : Nat} (hb : blk = 2 ^ bb) (hown : Own CV w B h (fun j => if j < 2 ^ bb then tabL k bb j else (0, 0))) :
    Own CV w B h (fun i => if i < blk + 0 then tabL k (bb + 1) i else (0, 0)) := hown.congr fun i _ => by
  subst hb
  by_cases g : i < 2 ^ bb
  · rw [if_pos g, if_pos (by omega), tabL_low _ _ _ g]
  · rw [if_neg g, if_neg (by omega)]
theorem tab_step {w : World} {B h k bb blk j t : Nat} (hb : blk = 2 ^ bb) (ht : t = k - bb) (hown : Own CV w B h (fun i => if i < blk + j then tabL k (bb + 1) i else (0, 0))) (hj : blk + j < h) :
    Own CV (w.setCell ⟨B, blk + j, none⟩ (CV (cmul (tabL k bb j) (baseF t)))) B h (fun i => if i < blk + (j + 1) then tabL k (bb + 1) i else (0, 0)) := by
  have := hown.step hj (v := CV (cmul (tabL k bb j) (baseF t))) (by rw [hb, tabL_high, ht])
  exact this
theorem tab_end {w : World} {B h k bb blk j : Nat} (hb : blk = 2 ^ bb) (hj : j = blk) (hown : Own CV w B h (fun i => if i < blk + j then tabL k (bb + 1) i else (0, 0))) :
    Own CV w B h (fun i => if i < 2 ^ (bb + 1) then tabL k (bb + 1) i else (0, 0)) := by
  subst hj; subst hb
  rw [show 2 ^ bb + 2 ^ bb = 2 ^ (bb + 1) from by rw [Nat.pow_succ]; omega] at hown
  exact hown
theorem tab_read {w : World} {B h k bb blk j : Nat} (hb : blk = 2 ^ bb) (hj : j < blk) (hh : j < h) {x : Nat} (hown : Own CV w B h (fun i => if i < blk + x then tabL k (bb + 1) i else (0, 0))) :
    w.cell? ⟨B, j, none⟩ = some (CV (tabL k bb j)) := by
  have := hown.cell hh
  rw [this, if_pos (by omega), tabL_low _ _ _ (by omega)]

set_option maxHeartbeats 1000000 in
theorem table_any (q h : Nat) (hq : q ≤ 10) (hh : h = 2 ^ q) (w : World) :
    Calls Tafg.prog 17 #[.int .u8 ((q : Int) + 1)] w fun e w' =>
      e = .returned (.slice (some ⟨w.heap.size, 0, none⟩) h h) ∧ Own CV w' w.heap.size h (tabF (q + 1)) ∧ Frm [] w w' := by
  have hb : h ≤ 1024 := by rw [hh]; exact Nat.pow_le_pow_right (by decide) hq
  have d1 : decide ((q : Int) + 1 < 1) = false := by simp; omega
  have d2 : decide ((11 : Int) < (q : Int) + 1) = false := by simp; omega
  have d3 : wrap64 ((2 : Int) ^ q) = (h : Int) := by rw [wrap_pow (by omega), hh]
  have hmk := make_c h (by omega)
  have b0 : (0 : Int) < h := by have := Nat.two_pow_pos q; omega
  have HH : Hid (h = 2 ^ q) := hh
  clear hh
  have hm0 : (madeCells #[Value.complex .f64 0 0] h)[0]? = some (Value.complex .f64 0 0) := by
    have : 0 < h := by omega
    simp [madeCells, this]
  have hst : Own CV (w.alloc (.cells ((madeCells #[Value.complex .f64 0 0] h).setIfInBounds 0 (.complex .f64 4607182418800017408 0)) 42)) w.heap.size h (fun j => if j < 2 ^ 0 then tabL (q + 1) 0 j else (0, 0)) := by
    have h1 := (Own.madeC (w := w) (n := h) (e := 42)).setCell (i := 0) (by omega) oneW
    rw [World.setCell_alloc_at _ _ _ _ _ rfl] at h1
    refine h1.congr fun i _ => ?_
    by_cases e : i = 0
    · subst e; rfl
    · rw [upd_ne _ _ _ _ e, if_neg (by omega)]
  have HST := hid hst
  clear hst
  go_enter Tafg.func17, Tafg.ntmps17
  go_wp2
  clear d3
  go_loopw [5, 6, 7, 8] (fun b _ _ _ wr => ∃ bb : Nat, bb ≤ q ∧ b = .int .u8 bb ∧ Own CV wr w.heap.size h (fun j => if j < 2 ^ bb then tabL (q + 1) bb j else (0, 0)) ∧ Frm [] w wr) (fun b _ _ _ _ => q - (intOf b).toNat)
  case atStart => exact ⟨0, Nat.zero_le _, rfl, HST.out, (Frm.refl _ _).alloc _⟩
  case round =>
    obtain ⟨bb, hbb, rfl, hown, hfr⟩ := hrel
    by_cases hlt : bb < q
    · obtain ⟨blk, hblk⟩ : ∃ x, x = 2 ^ bb := ⟨_, rfl⟩
      obtain ⟨t, ht⟩ : ∃ t : Nat, t = q + 1 - bb := ⟨_, rfl⟩
      have e1 : wrap64 ((2 : Int) ^ bb) = (blk : Int) := by rw [wrap_pow (by omega), hblk]
      have e2 : (q : Int) + 1 - (bb : Int) = (t : Int) := by omega
      have hle : blk * 2 ≤ h := by
        rw [HH.out, hblk, ← Nat.pow_succ]; exact Nat.pow_le_pow_right (by decide) hlt
      have htb : t ≤ 11 := by omega
      have hbase := base_any t htb
      have hstart := tab_start hblk hown
      have HB : Hid (blk = 2 ^ bb) := hblk
      have HT : Hid (t = q + 1 - bb) := ht
      have HSTART := (show Hid (Own CV wr w.heap.size h (fun i => if i < blk + 0 then tabL (q + 1) (bb + 1) i else (0, 0))) from hstart)
      have HFR := (show Hid (Frm [] w wr) from hfr)
      clear hblk ht hown hstart hfr
      go_wp2_with (first | (go_at_call 69; refine same_mono (hbase _) ?_))
      go_loopw [8] (fun i wi => ∃ j : Nat, j ≤ blk ∧ i = .int .i64 j ∧ Own CV wi w.heap.size h (fun i => if i < blk + j then tabL (q + 1) (bb + 1) i else (0, 0)) ∧ Frm [] w wi) (fun i _ => blk - (intOf i).toNat)
      case atStart => exact ⟨0, Nat.zero_le _, rfl, HSTART.out, HFR.out⟩
      case round =>
        obtain ⟨j, hj, rfl, hown, hfr⟩ := hrel
        by_cases hjl : j < blk
        · have c1 := tab_read HB.out hjl (by omega) hown
          obtain ⟨old, c3, c4⟩ := hown.get (i := blk + j) (by omega)
          have hst := tab_step HB.out HT.out hown (by omega)
          have bdx := tab_bd (q + 1) bb j (by omega) (by omega) (by omega) (by have := HB.out; omega)
          have hmul := mul_any (tabL (q + 1) bb j) (baseF t) bdx (base_bd t) (by decide) (by decide)
          have HSTEP := hid hst
          have HFR2 := hid hfr
          clear hst hown bdx hfr
          go_wp2_with (first | (go_at_call 70; refine same_mono (hmul _) ?_))
          go_roundw
          case rel => exact ⟨j + 1, by omega, by go_num, HSTEP.out, HFR2.out.setCell (.inr (Nat.le_refl _)) _⟩
          case measure => simp [intOf]; omega
        · have HOWN := hid hown
          have HFR2 := hid hfr
          clear hown hfr
          go_wp2
          go_roundw
          case rel =>
            exact ⟨bb + 1, by omega, by go_num, tab_end HB.out (by omega) HOWN.out, HFR2.out⟩
          case measure => simp [intOf]; omega
    · have e : bb = q := by omega
      subst e
      have HOWN := hid hown
      have HFR := hid hfr
      clear hown hfr
      go_wp2
      go_ret
      exact ⟨rfl, HOWN.out.congr fun i hi => by rw [if_pos (by have := HH.out; omega)]; rfl, HFR.out⟩
end Go.Proofs.Ygctaf
