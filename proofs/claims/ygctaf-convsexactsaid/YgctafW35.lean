/-
  WALKS: law.same, law.sameC (equal words), law.unitDefect.
-/
import Derived.Test.YgctafW34
import Derived.Test.YgctafRealNear
namespace Go.Proofs.Ygctaf
open Go.RowKit Ieee
attribute [local go_sem] run_store_complex run_store_float CV_eq FV_eq

theorem same_self (x : Nat) (w : World) : Calls Tafg.prog 99 #[.float .f64 x, .float .f64 x] w fun e w' => e = .returned (.bool true) ∧ w' = w := by
  have h := b64_any x
  go_enter Tafg.func99, Tafg.ntmps99
  go_wp2_with (first | (go_at_call 38; refine same_mono (h _) ?_))
  go_ret
  exact ⟨rfl, rfl⟩
theorem sameC_self (z : Nat × Nat) (w : World) : Calls Tafg.prog 58 #[CV z, CV z] w fun e w' => e = .returned (.bool true) ∧ w' = w := by
  have h1 := same_self z.1
  have h2 := same_self z.2
  go_enter Tafg.func58, Tafg.ntmps58
  go_wp2_with (first | (go_at_call_of 99 (Value.float .f64 z.1); refine same_mono (h1 _) ?_) | (go_at_call_of 99 (Value.float .f64 z.2); refine same_mono (h2 _) ?_))
  go_ret
  exact ⟨rfl, rfl⟩
/-- |z|^2 - 1, exactly. -/
def udZ (z : Nat × Nat) : Int := PZ z.1 z.1 + PZ z.2 z.2 + FZ 13830554455654793216
theorem mone_val : Num 13830554455654793216 ∧ V 13830554455654793216 = -1 := by
  have h : double.read 13830554455654793216 = .number true 4503599627370496 (-52) := by decide +kernel
  refine ⟨⟨_, _, _, h⟩, ?_⟩
  unfold V
  rw [h]
  show sgn true * (((4503599627370496 : Nat) : Rat) * p2 (-52)) = -1
  decide +kernel
set_option maxRecDepth 20000 in
set_option maxHeartbeats 1000000 in
theorem unitDefect_any (z : Nat × Nat) (w : World) (hn : Nm z) :
    Calls Tafg.prog 59 #[CV z] w fun e w' => e = .returned (.agg (digsL (udZ z)).toArray) ∧ Frm [] w w' := by
  have hz := (zero_of_info Tafg.info31).1
  go_enter Tafg.func59, Tafg.ntmps59
  go_wp2_with fail
  have hr0 : Arr (w.alloc (.cells Z68 31)) w.heap.size 0 (dg 0) := arr_new w
  have g0 : Frm [] w (w.alloc (.cells Z68 31)) := (Frm.refl [] w).alloc _
  refine (accProd_any z.1 z.1 _ hn.l1 hn.n1 hn.l1 hn.n1).mono ?_
  rintro e w1 ⟨rfl, f1⟩
  have hr1 := hr0.frame f1 (by simp)
  have g1 := g0.trans f1
  clear hr0 g0 f1
  dsimp only
  iterate 4 go_step
  have q0 := arr_new w1
  have hr2 := hr1.alloc (.cells Z68 31)
  have g2 : Frm [] w (w1.alloc (.cells Z68 31)) := g1.alloc _
  have hs1 := g1.size
  have hlt := hr1.1
  generalize hW : w1.alloc (.cells Z68 31) = W at *
  generalize w1.heap.size = A at *
  refine wpList_store_mid rfl 31 _ _ rfl A 0 (digsL (PZ z.1 z.1)).toArray rfl rfl (q0.there2 _) (size31A _) (digsL_one _) ?_
  have q1 := arr_setCells q0 (PZ z.1 z.1)
  have hr3 := (only_setCells W A 0 (PZ z.1 z.1)).arr hr2 (.inl (by omega))
  have g3 := g2.seq (U := []) (frm_setCells A (digsL (PZ z.1 z.1)) 0 W).1 (by simp) (by simp; omega)
  generalize W.setCells A 0 (digsL (PZ z.1 z.1)) = W1 at *
  clear hW q0 hr1 hr2 g1 g2
  go_wp2_with fail
  refine (addProd_any A 0 z.2 z.2 _ W1 hn.l2 hn.n2 hn.l2 hn.n2 q1).mono ?_
  rintro e w2 ⟨rfl, q2, o2⟩
  have hr4 := o2.arr hr3 (.inl (by omega))
  have g4 := g3.seq (U := []) o2.frm (by simp) (by simp; omega)
  clear o2 q1 hr3 g3
  go_wp2_with fail
  refine (addFloat_any A 0 13830554455654793216 _ w2 (by decide) mone_val.1 q2).mono ?_
  rintro e w3 ⟨rfl, q3, o3⟩
  have hr5 := o3.arr hr4 (.inl (by omega))
  have g5 := g4.seq (U := []) o3.frm (by simp) (by simp; omega)
  have q4 : Arr w3 A 0 (dg (udZ z)) := q3
  clear o3 q2 q3 hr4 g4
  dsimp only
  iterate 6 go_step
  refine wpList_load_mid rfl 31 _ rfl A 0 rfl (digsL (udZ z)) _ q4.range Tafg.underlying31 rfl (size31L _) ?_
  refine wpList_store_mid rfl 31 _ _ rfl w.heap.size 0 (digsL (udZ z)).toArray rfl rfl (hr5.there2 _) (size31A _) (digsL_one _) ?_
  have hr6 := arr_setCells hr5 (udZ z)
  have g6 : Frm [] w (w3.setCells w.heap.size 0 (digsL (udZ z))) := g5.seq (frm_setCells w.heap.size (digsL (udZ z)) 0 w3).1 (by simp) (by simp)
  iterate 4 go_step
  exact bodyPost_ret (results_cell_one rfl _ _ ⟨w.heap.size, 0, none⟩ _ rfl (run_loadVar_mid _ _ 0 31 (digsL (udZ z)) _ hr6.range Tafg.underlying31 rfl (size31L _))) rfl ⟨rfl, g6⟩
end Go.Proofs.Ygctaf
