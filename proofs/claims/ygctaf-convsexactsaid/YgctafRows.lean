/-
  No cell of these rows narrows 'for every input' (looked for: loops, veiled, ifaces, maps, wideKeys, modest, calm, conditions, laid).
  DERIVED. THE GIVEN ROWS OF THIS SEAT. 12 by the template 'for every input the law returns true; each argument reads behind the call as it read before'; 0 by the template 'total and deterministic' (their statements: YgctafTotals.lean).
  GIVEN WITH THE SEED: the statements are not yours to turn. If you find one false, say at which input.
  Laid BY PROGRAM, IN A SANDBOX (cutbox-rows.mjs): the forced cells as the released guide's own fill.sh prints them over the translation 7bf9e33ac2fd68c5… (all of the seat's roots in one cut). By AI agents, Wed Nov 11 2026. No macro, syntax, notation, axiom, sorry.
-/
import Derived.Test.YgctafChecked
import GoSem.Claim
import GoSem.ClaimJoined
import GoSem.ClaimMapViews
import Derived.JoinedTies
import Derived.KernelRfl
namespace Go.Proofs.Ygctaf
/- THE CELL 'sum', in the pinned program and in every row, IS THE sha256 OF THE DUMP (.gsa) THAT YgctafProg.lean LOADS. Nothing in Lean hashes anything: it is a label: what it is worth is what the hold of that sum in a sandbox is worth. -/
noncomputable def Tafg.pinned : Pinned := { name := "ygctaf", sum := "7bf9e33ac2fd68c5315e5ad7ab3db50d0e5c2847d8ea10cec9a77ba0f185f2ad", checked := Tafg.checked }
namespace Rows
def none {H : Type} : Left H := { results := [], args := [] }

/-- 'law.InverseNear': WHATEVER THE INPUT: true; the input reads as it did. -/
def inverseNearSpec : ChangeSpec := { name := "inverseNear", fn := fun _ => fun
  | [d] => { results := [.lit (.bool true)], args := [d] }
  | _ => none }
def inverseNearRow : OpenClaim := { program := "ygctaf", sum := "7bf9e33ac2fd68c5315e5ad7ab3db50d0e5c2847d8ea10cec9a77ba0f185f2ad", func := "fftlab/law.InverseNear", spec := "inverseNear", inPlace := ["math.Float64frombits", "math.Float64bits", "math/bits.Sub64", "math/bits.Add64"], apart := false }
def InverseNearSaid : Prop := inverseNearRow.holds Tafg.pinned (OpenSpec.ofChange inverseNearSpec)

/-- ITS FALSE NEIGHBOUR: 'it returns false'. Refute it at one input. -/
def inverseNearWrong : ChangeSpec := { name := "inverseNear", fn := fun _ => fun
  | [d] => { results := [.lit (.bool false)], args := [d] }
  | _ => none }
def InverseNearWrongFalsely : Prop := inverseNearRow.holds Tafg.pinned (OpenSpec.ofChange inverseNearWrong)

/-- 'law.BackExact': WHATEVER THE INPUT: true; the input reads as it did. -/
def backExactSpec : ChangeSpec := { name := "backExact", fn := fun _ => fun
  | [d] => { results := [.lit (.bool true)], args := [d] }
  | _ => none }
def backExactRow : OpenClaim := { program := "ygctaf", sum := "7bf9e33ac2fd68c5315e5ad7ab3db50d0e5c2847d8ea10cec9a77ba0f185f2ad", func := "fftlab/law.BackExact", spec := "backExact", inPlace := ["math.Float64bits"], apart := false }
def BackExactSaid : Prop := backExactRow.holds Tafg.pinned (OpenSpec.ofChange backExactSpec)

/-- ITS FALSE NEIGHBOUR: 'it returns false'. Refute it at one input. -/
def backExactWrong : ChangeSpec := { name := "backExact", fn := fun _ => fun
  | [d] => { results := [.lit (.bool false)], args := [d] }
  | _ => none }
def BackExactWrongFalsely : Prop := backExactRow.holds Tafg.pinned (OpenSpec.ofChange backExactWrong)

/-- 'law.NearestRight': WHATEVER THE INPUT: true; the input reads as it did. -/
def nearestRightSpec : ChangeSpec := { name := "nearestRight", fn := fun _ => fun
  | [d] => { results := [.lit (.bool true)], args := [d] }
  | _ => none }
def nearestRightRow : OpenClaim := { program := "ygctaf", sum := "7bf9e33ac2fd68c5315e5ad7ab3db50d0e5c2847d8ea10cec9a77ba0f185f2ad", func := "fftlab/law.NearestRight", spec := "nearestRight", inPlace := ["math.Float64frombits", "math.Float64bits", "math/bits.Sub64", "math/bits.Add64"], apart := false }
def NearestRightSaid : Prop := nearestRightRow.holds Tafg.pinned (OpenSpec.ofChange nearestRightSpec)

/-- ITS FALSE NEIGHBOUR: 'it returns false'. Refute it at one input. -/
def nearestRightWrong : ChangeSpec := { name := "nearestRight", fn := fun _ => fun
  | [d] => { results := [.lit (.bool false)], args := [d] }
  | _ => none }
def NearestRightWrongFalsely : Prop := nearestRightRow.holds Tafg.pinned (OpenSpec.ofChange nearestRightWrong)

/-- 'law.RoundAllRight': WHATEVER THE INPUT: true; the input reads as it did. -/
def roundAllRightSpec : ChangeSpec := { name := "roundAllRight", fn := fun _ => fun
  | [d1, d2] => { results := [.lit (.bool true)], args := [d1, d2] }
  | _ => none }
def roundAllRightRow : OpenClaim := { program := "ygctaf", sum := "7bf9e33ac2fd68c5315e5ad7ab3db50d0e5c2847d8ea10cec9a77ba0f185f2ad", func := "fftlab/law.RoundAllRight", spec := "roundAllRight", inPlace := ["math.Float64frombits", "math.Float64bits"], apart := false }
def RoundAllRightSaid : Prop := roundAllRightRow.holds Tafg.pinned (OpenSpec.ofChange roundAllRightSpec)

/-- ITS FALSE NEIGHBOUR: 'it returns false'. Refute it at one input. -/
def roundAllRightWrong : ChangeSpec := { name := "roundAllRight", fn := fun _ => fun
  | [d1, d2] => { results := [.lit (.bool false)], args := [d1, d2] }
  | _ => none }
def RoundAllRightWrongFalsely : Prop := roundAllRightRow.holds Tafg.pinned (OpenSpec.ofChange roundAllRightWrong)

/-- 'law.ConvIsTransform': WHATEVER THE INPUT: true; the input reads as it did. -/
def convIsTransformSpec : ChangeSpec := { name := "convIsTransform", fn := fun _ => fun
  | [d1, d2] => { results := [.lit (.bool true)], args := [d1, d2] }
  | _ => none }
def convIsTransformRow : OpenClaim := { program := "ygctaf", sum := "7bf9e33ac2fd68c5315e5ad7ab3db50d0e5c2847d8ea10cec9a77ba0f185f2ad", func := "fftlab/law.ConvIsTransform", spec := "convIsTransform", inPlace := ["math.Float64bits"], apart := false }
def ConvIsTransformSaid : Prop := convIsTransformRow.holds Tafg.pinned (OpenSpec.ofChange convIsTransformSpec)

/-- ITS FALSE NEIGHBOUR: 'it returns false'. Refute it at one input. -/
def convIsTransformWrong : ChangeSpec := { name := "convIsTransform", fn := fun _ => fun
  | [d1, d2] => { results := [.lit (.bool false)], args := [d1, d2] }
  | _ => none }
def ConvIsTransformWrongFalsely : Prop := convIsTransformRow.holds Tafg.pinned (OpenSpec.ofChange convIsTransformWrong)

/-- 'law.ConvExact': WHATEVER THE INPUT: true; the input reads as it did. -/
def convExactSpec : ChangeSpec := { name := "convExact", fn := fun _ => fun
  | [d1, d2] => { results := [.lit (.bool true)], args := [d1, d2] }
  | _ => none }
def convExactRow : OpenClaim := { program := "ygctaf", sum := "7bf9e33ac2fd68c5315e5ad7ab3db50d0e5c2847d8ea10cec9a77ba0f185f2ad", func := "fftlab/law.ConvExact", spec := "convExact", apart := false }
def ConvExactSaid : Prop := convExactRow.holds Tafg.pinned (OpenSpec.ofChange convExactSpec)

/-- ITS FALSE NEIGHBOUR: 'it returns false'. Refute it at one input. -/
def convExactWrong : ChangeSpec := { name := "convExact", fn := fun _ => fun
  | [d1, d2] => { results := [.lit (.bool false)], args := [d1, d2] }
  | _ => none }
def ConvExactWrongFalsely : Prop := convExactRow.holds Tafg.pinned (OpenSpec.ofChange convExactWrong)

/-- 'law.ForwardsNear': WHATEVER THE INPUT: true; the input reads as it did. -/
def forwardsNearSpec : ChangeSpec := { name := "forwardsNear", fn := fun _ => fun
  | [d] => { results := [.lit (.bool true)], args := [d] }
  | _ => none }
def forwardsNearRow : OpenClaim := { program := "ygctaf", sum := "7bf9e33ac2fd68c5315e5ad7ab3db50d0e5c2847d8ea10cec9a77ba0f185f2ad", func := "fftlab/law.ForwardsNear", spec := "forwardsNear", inPlace := ["math.Float64frombits", "math.Float64bits", "math/bits.Sub64", "math/bits.Add64"], apart := false }
def ForwardsNearSaid : Prop := forwardsNearRow.holds Tafg.pinned (OpenSpec.ofChange forwardsNearSpec)

/-- ITS FALSE NEIGHBOUR: 'it returns false'. Refute it at one input. -/
def forwardsNearWrong : ChangeSpec := { name := "forwardsNear", fn := fun _ => fun
  | [d] => { results := [.lit (.bool false)], args := [d] }
  | _ => none }
def ForwardsNearWrongFalsely : Prop := forwardsNearRow.holds Tafg.pinned (OpenSpec.ofChange forwardsNearWrong)

/-- 'law.RealNear': WHATEVER THE INPUT: true; the input reads as it did. -/
def realNearSpec : ChangeSpec := { name := "realNear", fn := fun _ => fun
  | [d] => { results := [.lit (.bool true)], args := [d] }
  | _ => none }
def realNearRow : OpenClaim := { program := "ygctaf", sum := "7bf9e33ac2fd68c5315e5ad7ab3db50d0e5c2847d8ea10cec9a77ba0f185f2ad", func := "fftlab/law.RealNear", spec := "realNear", inPlace := ["math.Float64frombits", "math.Float64bits", "math/bits.Sub64", "math/bits.Add64"], apart := false }
def RealNearSaid : Prop := realNearRow.holds Tafg.pinned (OpenSpec.ofChange realNearSpec)

/-- ITS FALSE NEIGHBOUR: 'it returns false'. Refute it at one input. -/
def realNearWrong : ChangeSpec := { name := "realNear", fn := fun _ => fun
  | [d] => { results := [.lit (.bool false)], args := [d] }
  | _ => none }
def RealNearWrongFalsely : Prop := realNearRow.holds Tafg.pinned (OpenSpec.ofChange realNearWrong)

/-- 'law.RootsNear': WHATEVER THE INPUT: true; the input reads as it did. -/
def rootsNearSpec : ChangeSpec := { name := "rootsNear", fn := fun _ => fun
  | [d1, d2] => { results := [.lit (.bool true)], args := [d1, d2] }
  | _ => none }
def rootsNearRow : OpenClaim := { program := "ygctaf", sum := "7bf9e33ac2fd68c5315e5ad7ab3db50d0e5c2847d8ea10cec9a77ba0f185f2ad", func := "fftlab/law.RootsNear", spec := "rootsNear", inPlace := ["math.Float64bits", "math/bits.Sub64", "math/bits.Add64"], apart := false }
def RootsNearSaid : Prop := rootsNearRow.holds Tafg.pinned (OpenSpec.ofChange rootsNearSpec)

/-- ITS FALSE NEIGHBOUR: 'it returns false'. Refute it at one input. -/
def rootsNearWrong : ChangeSpec := { name := "rootsNear", fn := fun _ => fun
  | [d1, d2] => { results := [.lit (.bool false)], args := [d1, d2] }
  | _ => none }
def RootsNearWrongFalsely : Prop := rootsNearRow.holds Tafg.pinned (OpenSpec.ofChange rootsNearWrong)

/-- 'law.AnyNear': WHATEVER THE INPUT: true; the input reads as it did. -/
def anyNearSpec : ChangeSpec := { name := "anyNear", fn := fun _ => fun
  | [d1, d2] => { results := [.lit (.bool true)], args := [d1, d2] }
  | _ => none }
def anyNearRow : OpenClaim := { program := "ygctaf", sum := "7bf9e33ac2fd68c5315e5ad7ab3db50d0e5c2847d8ea10cec9a77ba0f185f2ad", func := "fftlab/law.AnyNear", spec := "anyNear", inPlace := ["math.Float64bits", "math/bits.Sub64", "math/bits.Add64"], apart := false }
def AnyNearSaid : Prop := anyNearRow.holds Tafg.pinned (OpenSpec.ofChange anyNearSpec)

/-- ITS FALSE NEIGHBOUR: 'it returns false'. Refute it at one input. -/
def anyNearWrong : ChangeSpec := { name := "anyNear", fn := fun _ => fun
  | [d1, d2] => { results := [.lit (.bool false)], args := [d1, d2] }
  | _ => none }
def AnyNearWrongFalsely : Prop := anyNearRow.holds Tafg.pinned (OpenSpec.ofChange anyNearWrong)

/-- 'law.AnyBack': WHATEVER THE INPUT: true; the input reads as it did. -/
def anyBackSpec : ChangeSpec := { name := "anyBack", fn := fun _ => fun
  | [d] => { results := [.lit (.bool true)], args := [d] }
  | _ => none }
def anyBackRow : OpenClaim := { program := "ygctaf", sum := "7bf9e33ac2fd68c5315e5ad7ab3db50d0e5c2847d8ea10cec9a77ba0f185f2ad", func := "fftlab/law.AnyBack", spec := "anyBack", inPlace := ["math.Float64bits"], apart := false }
def AnyBackSaid : Prop := anyBackRow.holds Tafg.pinned (OpenSpec.ofChange anyBackSpec)

/-- ITS FALSE NEIGHBOUR: 'it returns false'. Refute it at one input. -/
def anyBackWrong : ChangeSpec := { name := "anyBack", fn := fun _ => fun
  | [d] => { results := [.lit (.bool false)], args := [d] }
  | _ => none }
def AnyBackWrongFalsely : Prop := anyBackRow.holds Tafg.pinned (OpenSpec.ofChange anyBackWrong)

/-- 'law.ConvsExact': WHATEVER THE INPUT: true; the input reads as it did. -/
def convsExactSpec : ChangeSpec := { name := "convsExact", fn := fun _ => fun
  | [d1, d2] => { results := [.lit (.bool true)], args := [d1, d2] }
  | _ => none }
def convsExactRow : OpenClaim := { program := "ygctaf", sum := "7bf9e33ac2fd68c5315e5ad7ab3db50d0e5c2847d8ea10cec9a77ba0f185f2ad", func := "fftlab/law.ConvsExact", spec := "convsExact", apart := false }
def ConvsExactSaid : Prop := convsExactRow.holds Tafg.pinned (OpenSpec.ofChange convsExactSpec)

/-- ITS FALSE NEIGHBOUR: 'it returns false'. Refute it at one input. -/
def convsExactWrong : ChangeSpec := { name := "convsExact", fn := fun _ => fun
  | [d1, d2] => { results := [.lit (.bool false)], args := [d1, d2] }
  | _ => none }
def ConvsExactWrongFalsely : Prop := convsExactRow.holds Tafg.pinned (OpenSpec.ofChange convsExactWrong)

end Rows
end Go.Proofs.Ygctaf
