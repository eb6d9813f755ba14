import Derived.Test.YgctafMem
import Derived.Test.YgctafW1
import Derived.Deep.RegionHeld3
import Derived.Deep.DrawnRows
namespace Go.Proofs.Ygctaf
open Go.RowKit
attribute [local go_sem ↓] Go.wp_at_zero Go.wp_at_succ
attribute [local go_sem] run_store_complex run_store_float

/-- xs read in pairs. -/
def pairF (zs : Nat → Int) : Nat → Nat × Nat := fun i => ((zs (2 * i)).toNat, (zs (2 * i + 1)).toNat)

set_option maxHeartbeats 1000000 in
theorem pairs_some (b off len cap : Nat) (zs : Nat → Int) (w : World) (hb : b < w.heap.size) (hlen : len * 8 ≤ 140737488351232) (hr : Rd (Value.int .u64) w b off len zs) :
    Calls Tafg.prog 33 #[.slice (some ⟨b, off, none⟩) len cap] w fun e w' =>
      e = .returned (.slice (some ⟨w.heap.size, 0, none⟩) (len / 2) (len / 2)) ∧ Own CV w' w.heap.size (len / 2) (pairF zs) ∧ Frm [] w w' := by
  obtain ⟨n, hn⟩ : ∃ n, n = len / 2 := ⟨_, rfl⟩
  have hmk := make_c n (by omega)
  have hdiv : ((len : Int) / 2) = (n : Int) := by omega
  rw [← hn]
  have HN : Hid (n = len / 2) := hn
  clear hn
  go_enter Tafg.func33, Tafg.ntmps33
  go_wp2
  go_loopw [4] (fun i wr => ∃ k : Nat, k ≤ n ∧ i = .int .i64 k ∧ Own CV wr w.heap.size n (fun j => if j < k then pairF zs j else (0, 0)) ∧ Frm [] w wr) (fun i _ => n - (intOf i).toNat)
  case atStart => exact ⟨0, Nat.zero_le _, rfl, by simpa using Own.madeC, (Frm.refl _ _).alloc _⟩
  case round =>
    obtain ⟨k, hk, rfl, hown, hfr⟩ := hrel
    by_cases hlt : k < n
    · have hN := HN.out
      have c1 : wr.cell? ⟨b, off + (2 * (k : Int)).toNat, none⟩ = some (.int .u64 (zs (2 * k))) := by rw [show (2 * (k : Int)).toNat = 2 * k from by omega]; exact (hr.frame hfr hb (by simp)) (2 * k) (by omega)
      have c2 : wr.cell? ⟨b, off + (2 * (k : Int) + 1).toNat, none⟩ = some (.int .u64 (zs (2 * k + 1))) := by rw [show (2 * (k : Int) + 1).toNat = 2 * k + 1 from by omega]; exact (hr.frame hfr hb (by simp)) (2 * k + 1) (by omega)
      have k1 : ∀ v, (wr.setCell ⟨w.heap.size, k, none⟩ v).cell? ⟨b, off + (2 * (k : Int)).toNat, none⟩ = some (.int .u64 (zs (2 * k))) := fun v => by rw [World.cell?_setCell_other _ _ _ _ (by intro h'; injection h' with h1; omega)]; exact c1
      have k2 : ∀ v, (wr.setCell ⟨w.heap.size, k, none⟩ v).cell? ⟨b, off + (2 * (k : Int) + 1).toNat, none⟩ = some (.int .u64 (zs (2 * k + 1))) := fun v => by rw [World.cell?_setCell_other _ _ _ _ (by intro h'; injection h' with h1; omega)]; exact c2
      obtain ⟨old, c3⟩ : ∃ old, wr.cell? ⟨w.heap.size, k, none⟩ = some old := ⟨_, hown.cell hlt⟩
      have c4 := hown.free hlt
      have b1 : (0 : Int) ≤ 2 * (k : Int) := by omega
      have b2 : 2 * (k : Int) < (len : Int) := by omega
      have b3 : (0 : Int) ≤ 2 * (k : Int) + 1 := by omega
      have b4 : 2 * (k : Int) + 1 < (len : Int) := by omega
      have b5 : (0 : Int) ≤ (k : Int) := by omega
      have b6 : (k : Int) < (n : Int) := by omega
      have b7 : IntKind.i64.wrap (2 * (k : Int)) = 2 * (k : Int) := by rw [IntKind.wrap_i64]; omega
      have b8 : IntKind.i64.wrap (2 * (k : Int) + 1) = 2 * (k : Int) + 1 := by rw [IntKind.wrap_i64]; omega
      clear hN
      go_wp2
      go_region_held3 (fun w' => w'.cell? ⟨b, off + (2 * (k : Int)).toNat, none⟩ = some (.int .u64 (zs (2 * k))) ∧ w'.cell? ⟨b, off + (2 * (k : Int) + 1).toNat, none⟩ = some (.int .u64 (zs (2 * k + 1)))) (go_keep)
        (first | (go_at_call 26; refine (f64_any _ _).mono ?_; rintro e w' ⟨rfl, rfl⟩))
      go_wp2
      go_roundw
      case rel => exact ⟨k + 1, hlt, by go_num, (hown.step hlt rfl).drew, (hfr.setCell (.inr (Nat.le_refl _)) _).drew⟩
      case measure => simp [intOf]; omega
    · go_wp2
      go_ret
      exact ⟨rfl, hown.full (by omega), hfr⟩

set_option maxHeartbeats 1000000 in
theorem pairs_none (a : Option Addr) (cap : Nat) (zs : Nat → Int) (w : World) :
    Calls Tafg.prog 33 #[.slice a 0 cap] w fun e w' =>
      e = .returned (.slice (some ⟨w.heap.size, 0, none⟩) 0 0) ∧ Own CV w' w.heap.size 0 (pairF zs) ∧ Frm [] w w' := by
  have hmk : ∀ w, (Instr.makeSlice 23 (.int .i64 0) (.int .i64 0)).run Tafg.prog w = .ok (.slice (some ⟨w.heap.size, 0, none⟩) 0 0) (w.alloc (.cells (madeCells #[Value.complex .f64 0 0] 0) 42)) := make_c 0 (by omega)
  go_enter Tafg.func33, Tafg.ntmps33
  go_wp2
  go_loopw [4] (fun i wr => i = .int .i64 0 ∧ Own CV wr w.heap.size 0 (pairF zs) ∧ Frm [] w wr) (fun i _ => 0)
  case atStart => exact ⟨rfl, ⟨by simp, fun i hi => by omega⟩, (Frm.refl _ _).alloc _⟩
  case round =>
    obtain ⟨rfl, hown, hfr⟩ := hrel
    go_wp2
    go_ret
    exact ⟨rfl, hown, hfr⟩
end Go.Proofs.Ygctaf
