/-
  WALKS: Acc.Neg, Acc.Add, Acc.Abs
-/
import Derived.Test.YgctafAcc1
import Derived.Deep.RegionWith
namespace Go.Proofs.Ygctaf
open Go.RowKit

theorem neg_call (x : Int) (k : Nat) (w : World) :
    Calls Tafg.prog 113 #[.int .u64 0, .int .u64 (dg x k), .int .u64 (bw 0 x k)] w fun e w' => e = .returned (.tuple #[.int .u64 (dg (-x) k), .int .u64 (bw 0 x (k + 1))]) ∧ w' = w := by
  have r := dg_range x k
  have r2 := bw_range 0 x k
  have h := sub64_dg 0 x k
  rw [dg_zero, Int.zero_sub x] at h
  refine (accSub_any 0 (dg x k) (bw 0 x k) (by decide) (by decide) r.1 r.2 r2.1 r2.2 w).mono ?_
  rintro e w' ⟨rfl, rfl⟩
  rw [h.1, h.2]
  exact ⟨rfl, rfl⟩
theorem add_call (x y : Int) (k : Nat) (w : World) :
    Calls Tafg.prog 111 #[.int .u64 (dg x k), .int .u64 (dg y k), .int .u64 (cy x y k)] w fun e w' => e = .returned (.tuple #[.int .u64 (dg (x + y) k), .int .u64 (cy x y (k + 1))]) ∧ w' = w := by
  have r := dg_range x k
  have r1 := dg_range y k
  have r2 := cy_range x y k
  have h := add64_dg x y k
  refine (accAdd_any (dg x k) (dg y k) (cy x y k) r.1 r1.1 r2.1 r2.2 w).mono ?_
  rintro e w' ⟨rfl, rfl⟩
  rw [h.1, h.2]
  exact ⟨rfl, rfl⟩
theorem sub_call (x y : Int) (k : Nat) (w : World) :
    Calls Tafg.prog 113 #[.int .u64 (dg x k), .int .u64 (dg y k), .int .u64 (bw x y k)] w fun e w' => e = .returned (.tuple #[.int .u64 (dg (x - y) k), .int .u64 (bw x y (k + 1))]) ∧ w' = w := by
  have r := dg_range x k
  have r1 := dg_range y k
  have r2 := bw_range x y k
  have h := sub64_dg x y k
  refine (accSub_any (dg x k) (dg y k) (bw x y k) r.1 r.2 r1.1 r1.2 r2.1 r2.2 w).mono ?_
  rintro e w' ⟨rfl, rfl⟩
  rw [h.1, h.2]
  exact ⟨rfl, rfl⟩

theorem arr_step {w : World} {b o k : Nat} {f g : Nat → Int} (h : Arr w b o (fun j => if j < k then f j else g j)) (hk : k < 68) :
    Arr (w.setCell ⟨b, o + k, none⟩ (.int .u64 (f k))) b o (fun j => if j < k + 1 then f j else g j) := by
  refine (h.set hk (f k)).congr fun i _ => ?_
  by_cases e : i = k
  · subst e; rw [upd_same, if_pos (by omega)]
  · rw [upd_ne _ _ _ _ e]
    have : (i < k + 1) = (i < k) := by rw [eq_iff_iff]; omega
    simp only [this]
theorem arr_full {w : World} {b o : Nat} {f g : Nat → Int} (h : Arr w b o (fun j => if j < 68 then f j else g j)) : Arr w b o f := h.congr fun i hi => by rw [if_pos hi]
theorem arr_none {w : World} {b o : Nat} {f g : Nat → Int} (h : Arr w b o g) : Arr w b o (fun j => if j < 0 then f j else g j) := h.congr fun i hi => by rw [if_neg (by omega)]

set_option maxHeartbeats 1000000 in
theorem neg_any (b o : Nat) (x : Int) (w : World) (h : Arr w b o (dg x)) :
    Calls Tafg.prog 84 #[.pointer (some ⟨b, o, none⟩)] w fun e w' => e = .returned (.tuple #[]) ∧ Arr w' b o (dg (-x)) ∧ Only b o w w' := by
  have HA := hid h
  clear h
  go_enter Tafg.func84, Tafg.ntmps84
  go_wp2
  go_loopw [2, 3] (fun s i wr => ∃ k : Nat, k ≤ 68 ∧ i = .int .i64 (k : Int) ∧ s = .int .u64 (bw 0 x k) ∧ Arr wr b o (fun j => if j < k then dg (-x) j else dg x j) ∧ Only b o w wr) (fun _ i _ => 68 - (intOf i).toNat)
  case atStart => exact ⟨0, by omega, rfl, by rw [bw_zero], arr_none HA.out, Only.refl _ _ _⟩
  case round =>
    obtain ⟨k, hk, rfl, rfl, ha, hon⟩ := hrel
    by_cases hlt : k < 68
    · have c1 := ha.cell hlt
      rw [if_neg (Nat.lt_irrefl k)] at c1
      have c2 := ha.free hlt
      have hst := arr_step ha hlt
      have hon2 := hon.trans (Only.set (.int .u64 (dg (-x) k)) hlt)
      have hs := neg_call x k
      have HST := hid hst
      have HON := hid hon2
      have b5 : (0 : Int) ≤ (k : Int) := by omega
      have b6 : (k : Int) < 68 := by omega
      clear ha hon hst hon2
      go_wp2
      go_region_with (go_at_call 113; refine same_mono (hs _) ?_)
      all_goals go_wp2
      all_goals
        go_roundw
        case rel => exact ⟨k + 1, by omega, by go_num, rfl, HST.out.drew, HON.out.drew⟩
        case measure => simp [intOf]; omega
    · have e : k = 68 := by omega
      subst e
      have HST := hid (arr_full ha)
      have HON := hid hon
      clear ha hon
      go_wp2
      go_end0
      exact ⟨rfl, HST.out, HON.out⟩

set_option maxHeartbeats 1000000 in
theorem add_any (b o b2 o2 : Nat) (x y : Int) (w : World) (h : Arr w b o (dg x)) (h2 : Arr w b2 o2 (dg y)) (hd : b2 ≠ b ∨ o2 + 68 ≤ o ∨ o + 68 ≤ o2) :
    Calls Tafg.prog 76 #[.pointer (some ⟨b, o, none⟩), .pointer (some ⟨b2, o2, none⟩)] w fun e w' => e = .returned (.tuple #[]) ∧ Arr w' b o (dg (x + y)) ∧ Only b o w w' := by
  have HA := hid h
  have HB := hid h2
  have HD := hid hd
  clear h h2 hd
  go_enter Tafg.func76, Tafg.ntmps76
  go_wp2
  go_loopw [4, 5] (fun s i wr => ∃ k : Nat, k ≤ 68 ∧ i = .int .i64 (k : Int) ∧ s = .int .u64 (cy x y k) ∧ Arr wr b o (fun j => if j < k then dg (x + y) j else dg x j) ∧ Only b o w wr) (fun _ i _ => 68 - (intOf i).toNat)
  case atStart => exact ⟨0, by omega, rfl, by rw [cy_zero], arr_none HA.out, Only.refl _ _ _⟩
  case round =>
    obtain ⟨k, hk, rfl, rfl, ha, hon⟩ := hrel
    by_cases hlt : k < 68
    · have c1 := ha.cell hlt
      rw [if_neg (Nat.lt_irrefl k)] at c1
      have c2 := ha.free hlt
      have c3 := (hon.arr HB.out HD.out).cell hlt
      have hst := arr_step ha hlt
      have hon2 := hon.trans (Only.set (.int .u64 (dg (x + y) k)) hlt)
      have hs := add_call x y k
      have HST := hid hst
      have HON := hid hon2
      have b5 : (0 : Int) ≤ (k : Int) := by omega
      have b6 : (k : Int) < 68 := by omega
      clear ha hon hst hon2
      go_wp2
      go_region_with (go_at_call 111; refine same_mono (hs _) ?_)
      all_goals go_wp2
      all_goals
        go_roundw
        case rel => exact ⟨k + 1, by omega, by go_num, rfl, HST.out.drew, HON.out.drew⟩
        case measure => simp [intOf]; omega
    · have e : k = 68 := by omega
      subst e
      have HST := hid (arr_full ha)
      have HON := hid hon
      clear ha hon
      go_wp2
      go_end0
      exact ⟨rfl, HST.out, HON.out⟩

theorem abs_any (b o : Nat) (x : Int) (w : World) (hx : InAcc x) (h : Arr w b o (dg x)) :
    Calls Tafg.prog 31 #[.pointer (some ⟨b, o, none⟩)] w fun e w' => e = .returned (.tuple #[]) ∧ Arr w' b o (dg (x.natAbs : Int)) ∧ Only b o w w' := by
  have hs := sign_any b o x w hx h
  have hn := neg_any b o x w h
  by_cases g : x < 0
  · have e1 : sgnZ x = -1 := by unfold sgnZ; rw [if_pos g]
    have e2 : ((x.natAbs : Nat) : Int) = -x := by omega
    rw [e1] at hs
    rw [e2]
    clear hx h g e1 e2
    go_enter Tafg.func31, Tafg.ntmps31
    go_wp2_with fail
    refine hs.mono ?_
    rintro e w1 ⟨rfl, rfl⟩
    go_wp2_with fail
    refine hn.mono ?_
    rintro e w2 ⟨rfl, ha, hon⟩
    go_wp2
    go_end0
    exact ⟨rfl, ha, hon⟩
  · have e1 : decide (sgnZ x < 0) = false := by unfold sgnZ; rw [if_neg g]; split <;> decide
    have e2 : ((x.natAbs : Nat) : Int) = x := by omega
    rw [e2]
    clear hx g e2
    have HA := hid h
    clear h hn
    go_enter Tafg.func31, Tafg.ntmps31
    go_wp2_with fail
    refine hs.mono ?_
    rintro e w1 ⟨rfl, rfl⟩
    go_wp2
    go_end0
    exact ⟨rfl, HA.out, Only.refl _ _ _⟩
end Go.Proofs.Ygctaf
