/-
  WALK: Acc.place
-/
import Derived.Test.YgctafAccW
namespace Go.Proofs.Ygctaf
open Go.RowKit

set_option maxRecDepth 100000 in
set_option maxHeartbeats 8000000 in
theorem place_pos (b o : Nat) (hi lo wd s i0 : Nat) (x y : Int) (w : World) (hhi : hi < 2 ^ 64) (hlo : lo < 2 ^ 64) (hw : wd ≤ 64) (hs : s < 64) (hi0 : i0 = 64 * wd + s)
    (hyy : y = (((hi * 2 ^ 64 + lo) * 2 ^ s * 2 ^ (64 * wd) : Nat) : Int)) (h : Arr w b o (dg x)) :
    Calls Tafg.prog 110 #[.pointer (some ⟨b, o, none⟩), .bool false, .int .u64 (hi : Int), .int .u64 (lo : Int), .int .i64 (i0 : Int)] w fun e w' => e = .returned (.tuple #[]) ∧ Arr w' b o (dg (x + y)) ∧ Only b o w w' := by
  have q1 : (i0 : Int).tdiv 64 = (wd : Int) := by rw [Int.tdiv_eq_ediv_of_nonneg (by omega)]; omega
  have q2 : (i0 : Int).tmod 64 = (s : Int) := by rw [Int.tmod_eq_emod_of_nonneg (by omega)]; omega
  obtain ⟨t, ht⟩ : ∃ t, t + s = 64 := ⟨64 - s, by omega⟩
  obtain ⟨y1, y2, y3, y4, y5⟩ := place_words (wd := wd) hhi hlo ht
  rw [← hyy] at y1 y2 y3 y4 y5
  have q3 : IntKind.i64.wrap (64 - (s : Int)) = (t : Int) := by rw [IntKind.wrap_i64]; omega
  have b1 : (0 : Int) ≤ (t : Int) := by omega
  have hP : IntKind.u64.wrap ((lo : Int) * 2 ^ s) = dg y wd := y1.symm
  obtain ⟨H, hH⟩ : ∃ P : Int, IntKind.u64.wrap ((hi : Int) * 2 ^ s) = P := ⟨_, rfl⟩
  have hQ : bits .or .u64 H ((lo : Int) / 2 ^ t) = dg y (wd + 1) := by rw [← hH]; exact y2.symm
  have hR : (hi : Int) / 2 ^ t = dg y (wd + 2) := y3.symm
  -- the states
  have s0 : Arr w b o (fun j => if j < wd then dg (x + y) j else dg x j) := h.congr fun i _ => by
    by_cases g : i < wd
    · rw [if_pos g, dg_add_low x y i wd y5 g]
    · rw [if_neg g]
  have k0 : cy x y wd = 0 := cy_low x y wd y5
  have a1 := add_call x y wd
  rw [k0] at a1
  have a2 := add_call x y (wd + 1)
  have a3 := add_call x y (wd + 2)
  have c1 := h.cell (i := wd) (by omega)
  have f1 := h.free (i := wd) (by omega)
  have w0 : (0 : Int) ≤ (wd : Int) := by omega
  have w1 : (wd : Int) < 68 := by omega
  have w2 : (wd : Int) + 1 < 68 := by omega
  have w3 : (wd : Int) + 2 < 68 := by omega
  have v1 : (0 : Int) ≤ (wd : Int) + 1 := by omega
  have v2 : (0 : Int) ≤ (wd : Int) + 2 := by omega
  have n1 : ((wd : Int) + 1).toNat = wd + 1 := by omega
  have n2 : ((wd : Int) + 2).toNat = wd + 2 := by omega
  have m1 : IntKind.i64.wrap ((wd : Int) + 1) = (wd : Int) + 1 := by rw [IntKind.wrap_i64]; omega
  have m2 : IntKind.i64.wrap ((wd : Int) + 2) = (wd : Int) + 2 := by rw [IntKind.wrap_i64]; omega
  have HY4 := hid y4
  have HS0 := hid s0
  have HLT := hid hw
  clear h y1 y2 y3 y4 y5 s0 k0 hyy hi0 hhi hlo
  go_enter Tafg.func110, Tafg.ntmps110
  go_wp2
  go_quiet (fail)
  go_wp2
  go_region_with (go_at_call 111; refine same_mono (a1 _) ?_)
  all_goals go_wp2
  generalize hW1 : (w.drewN (nq + 1)).setCell ⟨b, o + wd, none⟩ (.int .u64 (dg (x + y) wd)) = W1
  have s1 : Arr W1 b o (fun j => if j < wd + 1 then dg (x + y) j else dg x j) := by rw [← hW1]; exact arr_step (HS0.out.drewN (nq + 1)) (by omega)
  have o1 : Only b o w W1 := by rw [← hW1]; exact ((Only.refl b o w).drewN (nq + 1)).trans (Only.set _ (by omega))
  have c2 := s1.cell (i := wd + 1) (by omega)
  rw [if_neg (by omega)] at c2
  have f2 := s1.free (i := wd + 1) (by omega)
  have HS1 := hid s1
  have HO1 := hid o1
  clear s1 o1 hW1
  go_region_with (go_at_call 111; refine same_mono (a2 _) ?_)
  all_goals go_wp2
  generalize hW2 : (W1.setCell ⟨b, o + (wd + 1), none⟩ (.int .u64 (dg (x + y) (wd + 1)))).drew = W2
  have s2 : Arr W2 b o (fun j => if j < wd + 2 then dg (x + y) j else dg x j) := by rw [← hW2]; exact (arr_step HS1.out (by omega)).drew
  have o2 : Only b o w W2 := by rw [← hW2]; exact (HO1.out.trans (Only.set _ (by omega))).drew
  have c3 := s2.cell (i := wd + 2) (by omega)
  rw [if_neg (by omega)] at c3
  have f3 := s2.free (i := wd + 2) (by omega)
  have HS2 := hid s2
  have HO2 := hid o2
  clear s2 o2 hW2 HS1 HO1 c2 f2 c1 f1 HS0
  go_region_with (go_at_call 111; refine same_mono (a3 _) ?_)
  all_goals go_wp2
  generalize hW3 : (W2.setCell ⟨b, o + (wd + 2), none⟩ (.int .u64 (dg (x + y) (wd + 2)))).drew = W3
  have s3 : Arr W3 b o (fun j => if j < wd + 3 then dg (x + y) j else dg x j) := by rw [← hW3]; exact (arr_step HS2.out (by omega)).drew
  have o3 : Only b o w W3 := by rw [← hW3]; exact (HO2.out.trans (Only.set _ (by omega))).drew
  have HS3 := hid s3
  have HO3 := hid o3
  clear s3 o3 hW3 HS2 HO2 c3 f3
  go_loopw [15, 17] (fun c j wr => ∃ k : Nat, wd + 3 ≤ k ∧ k ≤ 68 ∧ j = .int .i64 (k : Int) ∧ c = .int .u64 (cy x y k) ∧ Arr wr b o (fun j => if j < k then dg (x + y) j else dg x j) ∧ Only b o w wr) (fun _ j _ => 68 - (intOf j).toNat)
  case atStart => exact ⟨wd + 3, Nat.le_refl _, by have := HLT.out; omega, by go_num, rfl, HS3.out, HO3.out⟩
  case round =>
    obtain ⟨k, hk1, hk, rfl, rfl, ha, hon⟩ := hrel
    by_cases hlt : k < 68
    · have l1 : (k : Int) < 68 := by omega
      have l0 : (0 : Int) ≤ (k : Int) := by omega
      by_cases hc : cy x y k = 0
      · have d1 : (cy x y k != 0) = false := by rw [hc]; rfl
        have hh := dg_add_high x y k (fun j hj => HY4.out j (by omega)) hc
        have hst : Arr wr b o (dg (x + y)) := ha.congr fun i hi => by
          by_cases g : i < k
          · rw [if_pos g]
          · rw [if_neg g]; exact (hh i (by omega)).2.symm
        have HST := hid hst
        have HON := hid hon
        clear ha hon hst hh hc
        go_wp2
        go_end0
        exact ⟨rfl, HST.out, HON.out⟩
      · have d1 : (cy x y k != 0) = true := by simpa using hc
        have c4 := ha.cell hlt
        rw [if_neg (Nat.lt_irrefl k)] at c4
        have c5 := ha.free hlt
        have hst := arr_step ha hlt
        have hon2 := hon.trans (Only.set (.int .u64 (dg (x + y) k)) hlt)
        have a4 := add_call x y k
        rw [HY4.out k hk1] at a4
        have HST := hid hst
        have HON := hid hon2
        clear ha hon hst hon2 hc
        go_wp2
        go_region_with (go_at_call 111; refine same_mono (a4 _) ?_)
        all_goals go_wp2
        all_goals
          go_roundw
          case rel => exact ⟨k + 1, by omega, by omega, by go_num, rfl, HST.out.drew, HON.out.drew⟩
          case measure => simp [intOf]; omega
    · have e : k = 68 := by omega
      subst e
      have HST := hid (arr_full ha)
      have HON := hid hon
      clear ha hon
      go_wp2
      go_end0
      exact ⟨rfl, HST.out, HON.out⟩
end Go.Proofs.Ygctaf
