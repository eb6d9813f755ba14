/-
  WALKS: fft.quarter, fft.Nearest.
-/
import Derived.Test.YgctafMem
import Derived.Test.YgctafW1
import Derived.Test.YgctafNear
namespace Go.Proofs.Ygctaf
open Go.RowKit

theorem quarter_any (x : Nat) (w : World) :
    Calls Tafg.prog 80 #[.float .f64 x] w fun e w' => e = .returned (.bool (quarterB x)) ∧ w' = w := by
  have hf : FloatKind.f64.format = Ieee.double := rfl
  unfold quarterB leB geB
  cases h1 : (Ieee.double.order x 4598175219545276416 == some .lt || Ieee.double.order x 4598175219545276416 == some .eq) <;>
  cases h2 : (Ieee.double.order x 13821547256400052224 == some .gt || Ieee.double.order x 13821547256400052224 == some .eq) <;>
  · go_enter Tafg.func80, Tafg.ntmps80
    go_wp2
    go_ret
    exact ⟨rfl, rfl⟩

/-- float64 arithmetic, as the walk meets it. -/
theorem run_fsub {x y : Nat} (hx : Num x) (hy : Num y) (t : TypeId) (w : World) : (binOp .sub t (.float .f64 x) (.float .f64 y)).run Tafg.prog w = .ok (.float .f64 (fsub x y)) w :=
  run_float_arith w .sub t .f64 x y _ (sub_some hx hy)
theorem run_fadd {x y : Nat} (hx : Num x) (hy : Num y) (t : TypeId) (w : World) : (binOp .add t (.float .f64 x) (.float .f64 y)).run Tafg.prog w = .ok (.float .f64 (fadd x y)) w :=
  run_float_arith w .add t .f64 x y _ (add_some hx hy)
theorem run_fmul {x y : Nat} (hx : Num x) (hy : Num y) (t : TypeId) (w : World) : (binOp .mul t (.float .f64 x) (.float .f64 y)).run Tafg.prog w = .ok (.float .f64 (fmul x y)) w :=
  run_float_arith w .mul t .f64 x y _ (mul_some hx hy)

theorem floatOfInt_eq (n : Int) : floatOfInt .f64 n = fint n := rfl
theorem run_ftoi {x : Nat} (hx : inB x = true) (w : World) : (convert 41 2 (.float .f64 x)).run Tafg.prog w = .ok (.int .i64 (ftoi x)) w := by
  have hn := ((inB_iff x).1 hx).1
  have hs := ftoi_small hx
  have h1 := (ftoi_spec hn).1
  refine run_convert_float_int w 41 2 .f64 .i64 x (ftoi x) (by rw [Tafg.underlying41]; rfl) Tafg.underlying2 ?_
  unfold floatToIntVal
  show (match (Ieee.double.read x).toInt .zero with | some n => if IntKind.i64.min ≤ n ∧ n ≤ IntKind.i64.max then some n else none | none => none) = some (ftoi x)
  rw [h1]
  have : IntKind.i64.min ≤ ftoi x ∧ ftoi x ≤ IntKind.i64.max := by
    have a : IntKind.i64.min = -9223372036854775808 := by decide
    have b : IntKind.i64.max = 9223372036854775807 := by decide
    omega
  simp only [this, and_self, if_true]

theorem nearest_out (x : Nat) (w : World) (h : inB x = false) :
    Calls Tafg.prog 24 #[.float .f64 x] w fun e w' => e = .returned (.tuple #[.int .i64 0, .bool false]) ∧ w' = w := by
  have hf : FloatKind.f64.format = Ieee.double := rfl
  unfold inB ltB gtB at h
  cases h1 : (Ieee.double.order x 4841369599423283200 == some .lt) <;>
  cases h2 : (Ieee.double.order x 14064741636278059008 == some .gt) <;>
  first
  | (rw [h1, h2] at h; cases h; done)
  | (clear h
     go_enter Tafg.func24, Tafg.ntmps24
     go_wp2
     go_ret2
     exact ⟨rfl, rfl⟩)

set_option maxHeartbeats 1000000 in
theorem nearest_in (x : Nat) (w : World) (h : inB x = true) :
    Calls Tafg.prog 24 #[.float .f64 x] w fun e w' => e = .returned (.tuple #[.int .i64 (nearF x).1, .bool (nearF x).2]) ∧ w' = w := by
  have hf : FloatKind.f64.format = Ieee.double := rfl
  have hn := ((inB_iff x).1 h).1
  have hs := ftoi_small h
  have hconv := run_ftoi h
  have hnf : nearF x = (let r := ftoi x
    let d := fsub x (fint r)
    let r1 := if geB d 4602678819172646912 then r + 1 else r
    let r2 := if leB d 13826050856027422720 then r1 - 1 else r1
    (r2, quarterB (fsub x (fint r2)))) := by unfold nearF; rw [if_pos h]
  have hfi := fun n => floatOfInt_eq n
  have hsub : ∀ n : Int, n.natAbs ≤ 2 ^ 53 → ∀ t w, (binOp .sub t (.float .f64 x) (.float .f64 (fint n))).run Tafg.prog w = .ok (.float .f64 (fsub x (fint n))) w :=
    fun n hn' => run_fsub hn (fint_rounded n hn').1.num
  have s0 := hsub (ftoi x) (by omega)
  have s1 := hsub (ftoi x + 1) (by omega)
  have s2 := hsub (ftoi x - 1) (by omega)
  have s3 := hsub (ftoi x + 1 - 1) (by omega)
  clear hsub
  unfold inB ltB gtB at h
  rw [Bool.and_eq_true] at h
  obtain ⟨h1, h2⟩ := h
  generalize hr : ftoi x = r at *
  have b1 : -4503599627370496 ≤ r := by omega
  have b2 : r ≤ 4503599627370496 := by omega
  rw [hnf]
  clear hnf hs hr hn
  dsimp only
  generalize hd : fsub x (fint r) = d at *
  unfold geB leB
  cases g1 : (Ieee.double.order d 4602678819172646912 == some .gt || Ieee.double.order d 4602678819172646912 == some .eq) <;>
  cases g2 : (Ieee.double.order d 13826050856027422720 == some .lt || Ieee.double.order d 13826050856027422720 == some .eq) <;>
  · simp only [Bool.false_eq_true, if_false, if_true]
    try simp only [Int.add_sub_cancel, hd]
    go_enter Tafg.func24, Tafg.ntmps24
    go_wp2_with (first | (go_at_call 80; refine (quarter_any _ _).mono ?_; rintro e w' ⟨rfl, rfl⟩))
    go_ret2
    exact ⟨rfl, rfl⟩

theorem nearest_any (x : Nat) (w : World) :
    Calls Tafg.prog 24 #[.float .f64 x] w fun e w' => e = .returned (.tuple #[.int .i64 (nearF x).1, .bool (nearF x).2]) ∧ w' = w := by
  cases h : inB x
  · have e : nearF x = (0, false) := by unfold nearF; rw [h]; rfl
    rw [e]; exact nearest_out x w h
  · exact nearest_in x w h

end Go.Proofs.Ygctaf
