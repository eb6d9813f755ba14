/-
  WALK: law.accProd
-/
import Derived.Test.YgctafW18
namespace Go.Proofs.Ygctaf
open Go.RowKit Ieee

set_option maxRecDepth 20000 in
set_option maxHeartbeats 1000000 in
theorem accProd_any (x y : Nat) (w : World) (hx : x < 2 ^ 64) (hn : Num x) (hy : y < 2 ^ 64) (hm : Num y) :
    Calls Tafg.prog 71 #[.float .f64 x, .float .f64 y] w fun e w' => e = .returned (.agg (digsL (PZ x y)).toArray) ∧ Frm [] w w' := by
  have hz := (zero_of_info Tafg.info31).1
  go_enter Tafg.func71, Tafg.ntmps71
  go_wp2_with fail
  have ha0 : Arr ((w.alloc (.cells Z68 31)).alloc (.cells Z68 31)) (w.heap.size + 1) 0 (dg 0) := by
    have := arr_new (w.alloc (.cells Z68 31))
    rw [show (w.alloc (.cells Z68 31)).heap.size = w.heap.size + 1 from by simp] at this
    exact this
  have hr0 : Arr ((w.alloc (.cells Z68 31)).alloc (.cells Z68 31)) w.heap.size 0 (dg 0) := (arr_new w).alloc _
  refine (addProd_any (w.heap.size + 1) 0 x y 0 _ hx hn hy hm ha0).mono ?_
  rintro e w1 ⟨rfl, ha1, hon1⟩
  rw [Int.zero_add] at ha1
  have hr1 := hon1.arr hr0 (.inl (by omega))
  have hf1 : Frm [] w w1 := (((Frm.refl [] w).alloc _).alloc _).seq hon1.frm (by simp) (by simp)
  dsimp only
  iterate 6 go_step
  refine wpList_load_mid rfl 31 _ rfl (w.heap.size + 1) 0 rfl (digsL (PZ x y)) _ ha1.range Tafg.underlying31 rfl (size31L _) ?_
  refine wpList_store_mid rfl 31 _ _ rfl w.heap.size 0 (digsL (PZ x y)).toArray rfl rfl (hr1.there2 _) (size31A _) (digsL_one _) ?_
  have hr2 := arr_setCells hr1 (PZ x y)
  have hf2 : Frm [] w (w1.setCells w.heap.size 0 (digsL (PZ x y))) := hf1.seq (frm_setCells w.heap.size (digsL (PZ x y)) 0 w1).1 (by simp) (by simp)
  iterate 4 go_step
  exact bodyPost_ret (results_cell_one rfl _ _ ⟨w.heap.size, 0, none⟩ _ rfl (run_loadVar_mid _ _ 0 31 (digsL (PZ x y)) _ hr2.range Tafg.underlying31 rfl (size31L _))) rfl ⟨rfl, hf2⟩
end Go.Proofs.Ygctaf
