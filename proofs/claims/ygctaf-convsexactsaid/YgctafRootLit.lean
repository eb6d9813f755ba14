/-
  THE ROOT OF ORDER 2048: a rational number of length 1 whose power 1024 is -1 but for next to nothing, and its powers in fixed point beside the table's entries. The kernel reckons them.
-/
import Derived.Test.YgctafTab
import Derived.Test.YgctafLen2
namespace Go.Proofs.Ygctaf
open Ieee
set_option maxRecDepth 100000

/-- tan(pi/2048), times 2^250 -/
def rT : Nat := 2775359056258982055187291811989891826710973086177820846602829047956324739
def rQ : Nat := 2 ^ 250
def fmulZ (x y : Int × Int) : Int × Int := ((x.1 * y.1 - x.2 * y.2) / 2 ^ 240, (x.1 * y.2 + x.2 * y.1) / 2 ^ 240)
def zb0 : Int × Int := (1766838749659647700078015344764244277259749529194931330266279866123977751, -5420610401513428572931824871931053892449737377402887851709233592489518)
def zb : Nat → Int × Int
  | 0 => zb0
  | b + 1 => fmulZ (zb b) (zb b)
def zl : Nat → List (Int × Int)
  | 0 => [(2 ^ 240, 0)]
  | b + 1 => zl b ++ (zl b).map fun z => fmulZ z (zb b)
/-- The word's value times 2^240, if whole. -/
def wz (x : Nat) : Option Int := match double.read x with
  | .number s m i => if m = 0 then some 0 else if -240 ≤ i then some (signed s m (i - -240).toNat) else none
  | _ => none
def nearOk (w : Nat × Nat) (z : Int × Int) : Bool := match wz w.1, wz w.2 with
  | some a, some b => decide ((a - z.1) * (a - z.1) + (b - z.2) * (b - z.2) ≤ 14 * 2 ^ 374)
  | _, _ => false
theorem zb_ok : decide ((zb 10).1 + 2 ^ 240 ≤ 2 ^ 12) && decide (0 ≤ (zb 10).1 + 2 ^ 240) && decide ((zb 10).2 ≤ 2 ^ 12) && decide (-(2 ^ 12) ≤ (zb 10).2) = true := by decide +kernel
theorem near_all : ((tabT10.zip (zl 10)).all fun p => nearOk p.1 p.2) = true := by decide +kernel
theorem zb0_ok : decide ((zb0.1 * ((rQ * rQ + rT * rT : Nat) : Int) - ((rQ * rQ : Nat) - (rT * rT : Nat) : Int) * 2 ^ 240).natAbs ≤ rQ * rQ + rT * rT) && decide ((zb0.2 * ((rQ * rQ + rT * rT : Nat) : Int) + ((2 * rT * rQ : Nat) : Int) * 2 ^ 240).natAbs ≤ rQ * rQ + rT * rT) = true := by decide +kernel
end Go.Proofs.Ygctaf
