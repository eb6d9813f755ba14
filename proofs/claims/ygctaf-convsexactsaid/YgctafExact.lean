/-
  WALK: law.exactDFT
-/
import Derived.Test.YgctafW17
namespace Go.Proofs.Ygctaf
open Go.RowKit Ieee
attribute [local go_sem] run_store_complex run_store_float CV_eq FV_eq

def Z136 : Array Value := Array.replicate 136 (.int .u64 0)
theorem Tafg.info72 : (Tafg.prog.info? 72).map (fun i => (i.zero, i.size)) = some (some (.agg Z136), 136) := by kernel_rfl
theorem cacc_new (w : World) : CAcc (w.alloc (.cells Z136 72)) w.heap.size 0 0 0 := by
  have key : ∀ i, i < 136 → (w.alloc (.cells Z136 72)).cell? ⟨w.heap.size, i, none⟩ = some (.int .u64 0) := fun i hi => by
    rw [World.cell?_alloc_at _ _ _ _ rfl]
    simp [Z136, hi]
  refine ⟨⟨by simp, fun i hi => ?_⟩, ⟨by simp, fun i hi => ?_⟩⟩
  · rw [Nat.zero_add, dg_zero]; exact ⟨key i (by omega), by simp⟩
  · rw [Nat.zero_add, dg_zero]; exact ⟨key (68 + i) (by omega), by simp⟩
def digs2 (x y : Int) : List Value := digsL x ++ digsL y
theorem digs2_len (x y : Int) : (digs2 x y).length = 136 := by unfold digs2; rw [List.length_append, digsL_len, digsL_len]
theorem digsL_at (z : Int) (j : Nat) (h : j < 68) : (digsL z)[j]? = some (.int .u64 (dg z j)) := by
  unfold digsL
  rw [List.getElem?_map, List.getElem?_range h]; rfl
theorem digs2_at (x y : Int) (j : Nat) (h : j < 136) : (digs2 x y)[j]? = some (.int .u64 (if j < 68 then dg x j else dg y (j - 68))) := by
  unfold digs2
  by_cases g : j < 68
  · rw [List.getElem?_append_left (by rw [digsL_len]; exact g), digsL_at x j g, if_pos g]
  · rw [List.getElem?_append_right (by rw [digsL_len]; omega), digsL_len, digsL_at y _ (by omega), if_neg g]
theorem CAcc.range {w : World} {b o : Nat} {x y : Int} (h : CAcc w b o x y) : w.rangeAt b o (digs2 x y) := fun j v hv => by
  have hj : j < 136 := by rw [← digs2_len x y]; exact (List.getElem?_eq_some_iff.1 hv).1
  rw [digs2_at x y j hj] at hv
  cases hv
  by_cases g : j < 68
  · rw [if_pos g]; exact h.1.cell g
  · rw [if_neg g]
    have := h.2.cell (i := j - 68) (by omega)
    rw [show o + 68 + (j - 68) = o + j from by omega] at this
    exact this
theorem CAcc.there {w : World} {b o : Nat} {x y : Int} (h : CAcc w b o x y) : w.there b o 136 := fun j hj => by
  by_cases g : j < 68
  · exact h.1.there j g
  · have := h.2.there (j - 68) (by omega)
    rw [show o + 68 + (j - 68) = o + j from by omega] at this
    exact this
theorem cacc_setCells {w : World} {b o : Nat} {u v : Int} (h : CAcc w b o u v) (x y : Int) : CAcc (w.setCells b o (digs2 x y)) b o x y := by
  have hr := World.rangeAt_setCells_same w b o (digs2 x y) (by rw [digs2_len]; exact h.there)
  have hs := (frm_setCells b (digs2 x y) o w).2
  refine ⟨⟨by rw [hs]; exact h.1.1, fun i hi => ⟨hr i _ ?_, by rw [World.frozen?_setCells]; exact h.1.free hi⟩⟩, ⟨by rw [hs]; exact h.1.1, fun i hi => ⟨?_, by rw [World.frozen?_setCells]; exact h.2.free hi⟩⟩⟩
  · rw [digs2_at x y i (by omega), if_pos hi]
  · have := hr (68 + i) (.int .u64 (dg y i)) (by rw [digs2_at x y _ (by omega), if_neg (by omega), Nat.add_sub_cancel_left])
    rw [← Nat.add_assoc] at this
    exact this
theorem digs2_one (x y : Int) : (digs2 x y).toArray.all (·.oneCell') = true := all_oneCell_toArray fun v hv => by
  unfold digs2 digsL at hv
  rcases List.mem_append.1 hv with h | h
  · obtain ⟨i, _, rfl⟩ := List.mem_map.1 h; rfl
  · obtain ⟨i, _, rfl⟩ := List.mem_map.1 h; rfl
theorem size72L (x y : Int) : (Tafg.prog.info? 72).map (·.size) = some (digs2 x y).length := by rw [digs2_len]; exact (zero_of_info Tafg.info72).2
theorem size72A (x y : Int) : (Tafg.prog.info? 72).map (·.size) = some (digs2 x y).toArray.size := by rw [List.size_toArray]; exact size72L x y
theorem CAcc.there2 {w : World} {b o : Nat} {u v : Int} (h : CAcc w b o u v) (x y : Int) : w.there b o (digs2 x y).toArray.size := by
  rw [List.size_toArray, digs2_len]; exact h.there
theorem CAcc.frame {S : List Nat} {w w' : World} {b o : Nat} {x y : Int} (h : CAcc w b o x y) (hf : Frm S w w') (hn : b ∉ S) : CAcc w' b o x y := ⟨h.1.frame hf hn, h.2.frame hf hn⟩
theorem CAcc.alloc {w : World} {b o : Nat} {x y : Int} (h : CAcc w b o x y) (t : Obj) : CAcc (w.alloc t) b o x y := ⟨h.1.alloc t, h.2.alloc t⟩

/-- The exact sums. -/
def exR (f W : Nat → Nat × Nat) : Nat → Int
  | 0 => 0
  | i + 1 => exR f W i + PZ (f i).1 (W i).1 + PZ (fneg (f i).2) (W i).2
def exI (f W : Nat → Nat × Nat) : Nat → Int
  | 0 => 0
  | i + 1 => exI f W i + PZ (f i).1 (W i).2 + PZ (f i).2 (W i).1
end Go.Proofs.Ygctaf
