/-
  WALKS: cacc.add, cacc.sub, cacc.addMul, law.finite, law.finiteC, law.small
-/
import Derived.Test.YgctafAcc8
import Derived.Test.YgctafShl
import Derived.Test.YgctafW5
namespace Go.Proofs.Ygctaf
open Go.RowKit Ieee
attribute [local go_sem] run_store_complex run_store_float CV_eq FV_eq

/-- An exact complex number, at offset o of block b: 136 words. -/
def CAcc (w : World) (b o : Nat) (x y : Int) : Prop := Arr w b o (dg x) ∧ Arr w b (o + 68) (dg y)
/-- Only block b is touched. -/
def OnlyB (b : Nat) (w w' : World) : Prop := Frm [b] w w' ∧ w'.heap.size = w.heap.size
theorem OnlyB.trans {b : Nat} {u v w : World} (h : OnlyB b u v) (k : OnlyB b v w) : OnlyB b u w := ⟨h.1.trans k.1, k.2.trans h.2⟩
theorem Only.b {b o : Nat} {w w' : World} (h : Only b o w w') : OnlyB b w w' := ⟨h.frm, h.size⟩

set_option maxHeartbeats 1000000 in
theorem caccAdd_any (b o : Nat) (z : Nat × Nat) (x y : Int) (w : World) (h1 : z.1 < 2 ^ 64) (n1 : Num z.1) (h2 : z.2 < 2 ^ 64) (n2 : Num z.2) (h : CAcc w b o x y) :
    Calls Tafg.prog 61 #[.pointer (some ⟨b, o, none⟩), CV z] w fun e w' => e = .returned (.tuple #[]) ∧ CAcc w' b o (x + FZ z.1) (y + FZ z.2) ∧ OnlyB b w w' := by
  obtain ⟨ha, hb⟩ := h
  have c1 := addFloat_any b o z.1 x w h1 n1 ha
  go_enter Tafg.func61, Tafg.ntmps61
  go_wp2_with fail
  refine c1.mono ?_
  rintro e w1 ⟨rfl, ha1, o1⟩
  have hb1 := o1.arr hb (.inr (.inr (by omega)))
  go_wp2_with fail
  refine (addFloat_any b (o + 68) z.2 y w1 h2 n2 hb1).mono ?_
  rintro e w2 ⟨rfl, hb2, o2⟩
  have ha2 := o2.arr ha1 (.inr (.inl (by omega)))
  go_wp2
  go_end0
  exact ⟨rfl, ⟨ha2, hb2⟩, o1.b.trans o2.b⟩

set_option maxHeartbeats 1000000 in
theorem caccSub_any (b o : Nat) (z : Nat × Nat) (x y : Int) (w : World) (h1 : z.1 < 2 ^ 64) (n1 : Num z.1) (h2 : z.2 < 2 ^ 64) (n2 : Num z.2) (h : CAcc w b o x y) :
    Calls Tafg.prog 51 #[.pointer (some ⟨b, o, none⟩), CV z] w fun e w' => e = .returned (.tuple #[]) ∧ CAcc w' b o (x + FZ (fneg z.1)) (y + FZ (fneg z.2)) ∧ OnlyB b w w' := by
  have r1 := run_fneg z.1
  have r2 := run_fneg z.2
  have c := caccAdd_any b o (fneg z.1, fneg z.2) x y w (neg_lt h1) (neg_num h1 n1).1 (neg_lt h2) (neg_num h2 n2).1 h
  have HC := hid c
  clear c h
  go_enter Tafg.func51, Tafg.ntmps51
  go_wp2_with fail
  refine Calls.mono HC.out ?_
  rintro e w1 ⟨rfl, ha, ho⟩
  go_wp2
  go_end0
  exact ⟨rfl, ha, ho⟩

set_option maxHeartbeats 1000000 in
theorem caccAddMul_any (b o : Nat) (z u : Nat × Nat) (x y : Int) (w : World) (h1 : z.1 < 2 ^ 64) (n1 : Num z.1) (h2 : z.2 < 2 ^ 64) (n2 : Num z.2) (h3 : u.1 < 2 ^ 64) (n3 : Num u.1) (h4 : u.2 < 2 ^ 64) (n4 : Num u.2) (h : CAcc w b o x y) :
    Calls Tafg.prog 60 #[.pointer (some ⟨b, o, none⟩), CV z, CV u] w fun e w' => e = .returned (.tuple #[]) ∧ CAcc w' b o (x + PZ z.1 u.1 + PZ (fneg z.2) u.2) (y + PZ z.1 u.2 + PZ z.2 u.1) ∧ OnlyB b w w' := by
  have r2 := run_fneg z.2
  have m2 := neg_lt h2
  have k2 := (neg_num h2 n2).1
  obtain ⟨ha, hb⟩ := h
  go_enter Tafg.func60, Tafg.ntmps60
  go_wp2_with fail
  refine (addProd_any b o z.1 u.1 x w h1 n1 h3 n3 ha).mono ?_
  rintro e w1 ⟨rfl, ha1, o1⟩
  have hb1 := o1.arr hb (.inr (.inr (by omega)))
  go_wp2_with fail
  refine (addProd_any b o (fneg z.2) u.2 _ w1 m2 k2 h4 n4 ha1).mono ?_
  rintro e w2 ⟨rfl, ha2, o2⟩
  have hb2 := o2.arr hb1 (.inr (.inr (by omega)))
  go_wp2_with fail
  refine (addProd_any b (o + 68) z.1 u.2 _ w2 h1 n1 h4 n4 hb2).mono ?_
  rintro e w3 ⟨rfl, hb3, o3⟩
  have ha3 := o3.arr ha2 (.inr (.inl (by omega)))
  go_wp2_with fail
  refine (addProd_any b (o + 68) z.2 u.1 _ w3 h2 n2 h3 n3 hb3).mono ?_
  rintro e w4 ⟨rfl, hb4, o4⟩
  have ha4 := o4.arr ha3 (.inr (.inl (by omega)))
  go_wp2
  go_end0
  exact ⟨rfl, ⟨ha4, hb4⟩, ((o1.b.trans o2.b).trans o3.b).trans o4.b⟩

theorem finite_any (x : Nat) (hx : x < 2 ^ 64) (hn : Num x) (w : World) : Calls Tafg.prog 55 #[.float .f64 x] w fun e w' => e = .returned (.bool true) ∧ w' = w := by
  have hs := split_any x hx
  obtain ⟨s, m, e, c, h1, hc, _⟩ := split_num hx hn
  rw [h1] at hs
  unfold splitV at hs
  dsimp only at hs
  have d1 : decide ((c : Int) ≤ 1) = true := by simp; omega
  clear h1 hx hn
  go_enter Tafg.func55, Tafg.ntmps55
  go_wp2_with (first | (go_at_call 82; refine (hs _).mono ?_; rintro e w' ⟨rfl, rfl⟩))
  go_ret
  exact ⟨rfl, rfl⟩
theorem finiteC_any (z : Nat × Nat) (h1 : z.1 < 2 ^ 64) (n1 : Num z.1) (h2 : z.2 < 2 ^ 64) (n2 : Num z.2) (w : World) : Calls Tafg.prog 52 #[CV z] w fun e w' => e = .returned (.bool true) ∧ w' = w := by
  have c1 := finite_any z.1 h1 n1
  have c2 := finite_any z.2 h2 n2
  go_enter Tafg.func52, Tafg.ntmps52
  go_wp2_with (first | (go_at_call_of 55 (Value.float .f64 z.1); refine same_mono (c1 _) ?_) | (go_at_call_of 55 (Value.float .f64 z.2); refine same_mono (c2 _) ?_))
  go_ret
  exact ⟨rfl, rfl⟩

set_option maxRecDepth 20000 in
theorem small_any (b o : Nat) (x y : Int) (w : World) (hx : InAcc x) (hxa : InAcc (x.natAbs : Int)) (hy : InAcc y) (h : Arr w b o (dg y)) :
    Calls Tafg.prog 56 #[.agg (digsL x).toArray, .pointer (some ⟨b, o, none⟩)] w fun e w' => e = .returned (.bool (decide ((x.natAbs : Int) ≤ y))) ∧ Frm [] w w' := by
  have hb := h.1
  go_enter Tafg.func56, Tafg.ntmps56
  go_wp2_with fail
  refine (abs_any w.heap.size 0 x _ hx (arr_boxed w x)).mono ?_
  rintro e w1 ⟨rfl, ha, o1⟩
  have h1 := o1.arr (h.alloc _) (.inl (by omega))
  have f1 : Frm [] w w1 := ((Frm.refl [] w).alloc _).seq o1.frm (by simp) (by simp)
  go_wp2_with fail
  refine (cmp_any w.heap.size 0 b o (x.natAbs : Int) y w1 hxa hy ha h1).mono ?_
  rintro e w2 ⟨rfl, f2, _⟩
  have e1 : decide (cmpZ (x.natAbs : Int) y ≤ 0) = decide ((x.natAbs : Int) ≤ y) := by
    rw [Bool.eq_iff_iff, decide_eq_true_eq, decide_eq_true_eq]
    unfold cmpZ
    split
    · omega
    · split <;> omega
  go_wp2
  go_ret
  exact ⟨by rw [← e1]; rfl, f1.trans f2⟩
end Go.Proofs.Ygctaf
