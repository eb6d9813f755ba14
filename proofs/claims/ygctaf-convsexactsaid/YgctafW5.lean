/-
  WALKS: tw.Mul, tw.Conj, fft.level, fft.fits.
-/
import Derived.Test.YgctafW2
import Derived.Test.YgctafC
namespace Go.Proofs.Ygctaf
open Go.RowKit

theorem mul_any {e f : Int} (x y : Nat × Nat) (hx : Bd e x) (hy : Bd f y) (h0 : 0 ≤ e + f) (h1 : e + f ≤ 990) (w : World) :
    Calls Tafg.prog 70 #[CV x, CV y] w fun e w' => e = .returned (CV (cmul x y)) ∧ w' = w := by
  have m1 := hx.re.mul hy.re h0 (by omega)
  have m2 := hx.im.mul hy.im h0 (by omega)
  have m3 := hx.re.mul hy.im h0 (by omega)
  have m4 := hx.im.mul hy.re h0 (by omega)
  have r1 := run_fmul hx.re.num hy.re.num
  have r2 := run_fmul hx.im.num hy.im.num
  have r3 := run_fmul hx.re.num hy.im.num
  have r4 := run_fmul hx.im.num hy.re.num
  have r5 := run_fsub m1.num m2.num
  have r6 := run_fadd m3.num m4.num
  clear m1 m2 m3 m4 hx hy
  obtain ⟨a, b⟩ := x
  obtain ⟨c, d⟩ := y
  unfold CV cmul
  dsimp only at *
  go_enter Tafg.func70, Tafg.ntmps70
  go_wp2
  go_ret
  exact ⟨rfl, rfl⟩

theorem run_fneg (x : Nat) (w : World) : (Op.unary .neg (.float .f64 x)).run Tafg.prog w = .ok (.float .f64 (fneg x)) w := rfl
theorem conj_any (x : Nat × Nat) (w : World) :
    Calls Tafg.prog 75 #[CV x] w fun e w' => e = .returned (CV (cconj x)) ∧ w' = w := by
  have hn := run_fneg
  obtain ⟨a, b⟩ := x
  unfold CV cconj
  dsimp only at *
  go_enter Tafg.func75, Tafg.ntmps75
  go_wp2
  go_ret
  exact ⟨rfl, rfl⟩
end Go.Proofs.Ygctaf
