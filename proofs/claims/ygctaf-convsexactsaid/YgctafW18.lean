/-
  WALK: cacc.within (the good case)
-/
import Derived.Test.YgctafExact2
namespace Go.Proofs.Ygctaf
open Go.RowKit Ieee
attribute [local go_sem] run_store_complex run_store_float CV_eq FV_eq

set_option maxRecDepth 20000 in
set_option maxHeartbeats 1000000 in
theorem within_any (b o bb bo : Nat) (x y B : Int) (w : World) (hx : InAcc x) (hxa : InAcc (x.natAbs : Int)) (hy : InAcc y) (hya : InAcc (y.natAbs : Int)) (hB : InAcc B) (h : CAcc w b o x y) (hb : Arr w bb bo (dg B))
    (h1 : (x.natAbs : Int) ≤ B) (h2 : (y.natAbs : Int) ≤ B) :
    Calls Tafg.prog 53 #[.pointer (some ⟨b, o, none⟩), .pointer (some ⟨bb, bo, none⟩)] w fun e w' => e = .returned (.bool true) ∧ Frm [] w w' := by
  go_enter Tafg.func53, Tafg.ntmps53
  iterate 20 go_step
  refine wpList_load_mid rfl 31 _ rfl b o rfl (digsL x) _ h.1.range Tafg.underlying31 rfl (size31L _) ?_
  go_wp2_with fail
  have e1 : decide ((x.natAbs : Int) ≤ B) = true := by simpa using h1
  have e2 : decide ((y.natAbs : Int) ≤ B) = true := by simpa using h2
  have c1 := small_any bb bo x B w hx hxa hB hb
  rw [e1] at c1
  refine c1.mono ?_
  rintro e w1 ⟨rfl, f1⟩
  have hc1 := h.2.frame f1 (by simp)
  have hb1 := hb.frame f1 (by simp)
  dsimp only
  iterate 10 go_step
  refine wpList_step (fun K hK => ?_)
  split
  · refine wp_load_mid 31 _ rfl b (o + 68) rfl (digsL y) _ hc1.range Tafg.underlying31 rfl (size31L _) (hK _ _ ?_)
    clear hK
    go_wp2_with fail
    have c2 := small_any bb bo y B w1 hy hya hB hb1
    rw [e2] at c2
    refine c2.mono ?_
    rintro e w2 ⟨rfl, f2⟩
    go_wp2
    go_ret
    exact ⟨rfl, f1.trans f2⟩
  · rename_i hw
    exact absurd rfl hw
end Go.Proofs.Ygctaf
