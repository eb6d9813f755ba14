import Derived.Test.YgctafRows
import Derived.WalkKit
import Derived.WalkSpells
import Derived.WalkLawsBesides
namespace Go.Proofs.Ygctaf
open Go.RowKit

theorem frombits_run (p : Int) (w : World) : (callFunc 81 #[.int .u64 p]).run Tafg.prog w = .ok (.value (.float .f64 p.toNat)) w := by kernel_rfl
theorem bits_run (p : Nat) (w : World) : (callFunc 87 #[.float .f64 p]).run Tafg.prog w = .ok (.value (.int .u64 p)) w := by kernel_rfl

set_option maxHeartbeats 400000 in
theorem f64_any (p : Int) (w : World) :
    Calls Tafg.prog 26 #[.int .u64 p] w fun e w' => e = .returned (.float .f64 p.toNat) ∧ w' = w := by
  have h := frombits_run
  go_enter Tafg.func26, Tafg.ntmps26
  go_wp2
  go_ret
  exact ⟨rfl, rfl⟩

set_option maxHeartbeats 400000 in
theorem b64_any (p : Nat) (w : World) :
    Calls Tafg.prog 38 #[.float .f64 p] w fun e w' => e = .returned (.int .u64 p) ∧ w' = w := by
  have h := bits_run
  go_enter Tafg.func38, Tafg.ntmps38
  go_wp2
  go_ret
  exact ⟨rfl, rfl⟩

set_option maxHeartbeats 400000 in
theorem bits64_any (p : Nat) (w : World) :
    Calls Tafg.prog 112 #[.float .f64 p] w fun e w' => e = .returned (.int .u64 p) ∧ w' = w := by
  have h := bits_run
  go_enter Tafg.func112, Tafg.ntmps112
  go_wp2
  go_ret
  exact ⟨rfl, rfl⟩
end Go.Proofs.Ygctaf
