/-
  WALK: law.gap
-/
import Derived.Test.YgctafAcc6
namespace Go.Proofs.Ygctaf
open Go.RowKit Ieee

theorem arr_boxed (w : World) (z : Int) : Arr (w.alloc (.cells (digsL z).toArray 31)) w.heap.size 0 (dg z) := by
  refine ⟨by simp, fun i hi => ?_⟩
  rw [Nat.zero_add]
  refine ⟨?_, by simp⟩
  rw [World.cell?_alloc_at _ _ _ _ rfl]
  show (digsL z).toArray[i]? = _
  rw [List.getElem?_toArray]
  unfold digsL
  rw [List.getElem?_map, List.getElem?_range hi]; rfl

set_option maxRecDepth 20000 in
set_option maxHeartbeats 1000000 in
theorem gap_any (x y : Int) (w : World) (hxy : InAcc (x - y)) :
    Calls Tafg.prog 29 #[.agg (digsL x).toArray, .agg (digsL y).toArray] w fun e w' => e = .returned (.agg (digsL ((x - y).natAbs : Int)).toArray) ∧ Frm [] w w' := by
  have hz := (zero_of_info Tafg.info31).1
  go_enter Tafg.func29, Tafg.ntmps29
  go_wp2_with fail
  generalize hW : ((w.alloc (.cells (digsL x).toArray 31)).alloc (.cells (digsL y).toArray 31)).alloc (.cells Z68 31) = W
  have hA : Arr W w.heap.size 0 (dg x) := by rw [← hW]; exact ((arr_boxed w x).alloc _).alloc _
  have hB : Arr W (w.heap.size + 1) 0 (dg y) := by
    have := arr_boxed (w.alloc (.cells (digsL x).toArray 31)) y
    rw [show (w.alloc (.cells (digsL x).toArray 31)).heap.size = w.heap.size + 1 from by simp] at this
    rw [← hW]; exact this.alloc _
  have hR : Arr W (w.heap.size + 1 + 1) 0 (dg 0) := by
    have := arr_new ((w.alloc (.cells (digsL x).toArray 31)).alloc (.cells (digsL y).toArray 31))
    rw [show ((w.alloc (.cells (digsL x).toArray 31)).alloc (.cells (digsL y).toArray 31)).heap.size = w.heap.size + 1 + 1 from by simp] at this
    rw [← hW]; exact this
  have hF : Frm [] w W := by rw [← hW]; exact (((Frm.refl [] w).alloc _).alloc _).alloc _
  clear hW
  refine (neg_any (w.heap.size + 1) 0 y W hB).mono ?_
  rintro e w1 ⟨rfl, hB1, o1⟩
  have hA1 := o1.arr hA (.inl (by omega))
  have hR1 := o1.arr hR (.inl (by omega))
  have hF1 : Frm [] w w1 := hF.seq o1.frm (by simp) (by simp)
  go_wp2_with fail
  refine (add_any w.heap.size 0 (w.heap.size + 1) 0 x (-y) w1 hA1 hB1 (.inl (by omega))).mono ?_
  rintro e w2 ⟨rfl, hA2, o2⟩
  rw [← Int.sub_eq_add_neg] at hA2
  have hR2 := o2.arr hR1 (.inl (by omega))
  have hF2 : Frm [] w w2 := hF1.seq o2.frm (by simp) (by simp)
  go_wp2_with fail
  refine (abs_any w.heap.size 0 (x - y) w2 hxy hA2).mono ?_
  rintro e w3 ⟨rfl, hA3, o3⟩
  have hR3 := o3.arr hR2 (.inl (by omega))
  have hF3 : Frm [] w w3 := hF2.seq o3.frm (by simp) (by simp)
  dsimp only
  iterate 6 go_step
  refine wpList_load_mid rfl 31 _ rfl w.heap.size 0 rfl (digsL _) _ hA3.range Tafg.underlying31 rfl (size31L _) ?_
  refine wpList_store_mid rfl 31 _ _ rfl (w.heap.size + 1 + 1) 0 (digsL _).toArray rfl rfl (hR3.there2 _) (size31A _) (digsL_one _) ?_
  have hR4 := arr_setCells hR3 ((x - y).natAbs : Int)
  have hF4 : Frm [] w (w3.setCells (w.heap.size + 1 + 1) 0 (digsL ((x - y).natAbs : Int))) := hF3.seq (frm_setCells (w.heap.size + 1 + 1) (digsL ((x - y).natAbs : Int)) 0 w3).1 (by simp) (by simp; omega)
  iterate 4 go_step
  exact bodyPost_ret (results_cell_one rfl _ _ ⟨w.heap.size + 1 + 1, 0, none⟩ _ rfl (run_loadVar_mid _ _ 0 31 (digsL _) _ hR4.range Tafg.underlying31 rfl (size31L _))) rfl ⟨rfl, hF4⟩
end Go.Proofs.Ygctaf
