/-
  A FINE ROOT: a rational number of length 1, 2^80-th root of the table's root but for next to nothing. The kernel reckons it.
-/
import Derived.Test.YgctafRoot
namespace Go.Proofs.Ygctaf
open Ieee
set_option maxRecDepth 100000

/-- tan(pi/2^91), times 2^440 -/
def eT : Nat := 3602619201506383478977766965956461628533503294215763016670175585623272309469457817341314531721520772214380
def eQ : Nat := 2 ^ 440
def eDn : Nat := eQ * eQ + eT * eT
def eA : Int := ((eQ * eQ : Nat) : Int) - ((eT * eT : Nat) : Int)
def eB : Int := -((2 * eT * eQ : Nat) : Int)
def gmulZ (x y : Int × Int) : Int × Int := ((x.1 * y.1 - x.2 * y.2) / 2 ^ 400, (x.1 * y.2 + x.2 * y.1) / 2 ^ 400)
def eb0 : Int × Int := (eA * 2 ^ 400 / (eDn : Int), eB * 2 ^ 400 / (eDn : Int))
def eb : Nat → Int × Int
  | 0 => eb0
  | b + 1 => gmulZ (eb b) (eb b)
theorem eb_ok : decide (((eb 80).1 - zb0.1 * 2 ^ 160).natAbs ≤ 2 ^ 163) && decide (((eb 80).2 - zb0.2 * 2 ^ 160).natAbs ≤ 2 ^ 163) = true := by decide +kernel
end Go.Proofs.Ygctaf
