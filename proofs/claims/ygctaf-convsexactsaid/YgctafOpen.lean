/-
  HOW A SLICE OF INTEGERS THAT CAME IN IS OPENED, with the row's own reach.
-/
import Derived.Test.YgctafMem
import Derived.ProofKit
import Derived.OpenShut
import Derived.ShutString
import Derived.ChangeOld
import Derived.Below
import Derived.SizedLaws
namespace Go.Proofs.Ygctaf
open Go.RowKit Go.ChangeShapes Go.WideShapes Go.ChangeAt

theorem Tafg.laidOut : laidOutB Tafg.prog = true := by kernel_rfl

/-- A slice of integers of kind k that came in. -/
def InRow (k : IntKind) (w : World) (a : Option Addr) (len : Nat) (zs : Nat → Int) : Prop :=
  len = 0 ∨ ∃ b off, a = some ⟨b, off, none⟩ ∧ b < w.heap.size ∧ Rd (Value.int k) w b off len zs

theorem open_row {H : Type} {enc : TypeId × Value → H} {w : World} {base : Nat} {spare : Nat → Bool} {held : Bool} {t e : TypeId} {k : IntKind} {a : Option Addr} {len cap : Nat} {d : DataW H} {ps : List MemPlace}
    (ht : Tafg.prog.underlying t = some (.slice e)) (he : Tafg.prog.underlying e = some (.int k)) (hc : Tafg.prog.cellsOf e = 1)
    (h : DataW.Trod enc Tafg.prog w base spare held t (.slice a len cap) d ps) :
    ∃ zs : Nat → Int, InRow k w a len zs ∧ (∀ i, i < len → (Lit.int k (zs i)).wf = true) ∧
      (len = 0 ∨ ∃ elems sp, d = .slice elems sp ∧ elems.length = len) := by
  obtain ⟨fuel, hf⟩ := h
  rcases open_ints ht he hc hf with ⟨hcs, _⟩ | ⟨x, l, c, zs, hcs, _, hl, hm, hz, hx, hcell, hwz⟩
  · simp [Value.cells] at hcs
    obtain ⟨rfl, rfl, rfl⟩ := hcs
    exact ⟨fun _ => 0, .inl rfl, fun i hi => by omega, .inl rfl⟩
  · simp [Value.cells] at hcs
    obtain ⟨rfl, rfl, rfl⟩ := hcs
    have hlen : len ≤ zs.length := by rw [hz]; split <;> omega
    refine ⟨fun i => zs.getD i 0, ?_, fun i hi => ?_, .inr ⟨_, _, congrArg Prod.fst hx, ?_⟩⟩
    · rcases Nat.eq_zero_or_pos len with h0 | h0
      · exact .inl h0
      · right
        have h1 := hcell 0 (by omega)
        obtain ⟨b, off, spot⟩ := x
        have hspot : spot = none := by
          cases spot with
          | none => rfl
          | some s =>
            exfalso
            unfold World.cell? at h1
            split at h1
            · simp [Addr.add] at h1
            · cases h1
        subst hspot
        refine ⟨b, off, rfl, ?_, fun i hi => by have := hcell i (by omega); rw [show (⟨b, off, none⟩ : Addr).add i = ⟨b, off + i, none⟩ from by unfold Addr.add; split <;> simp_all] at this; exact this⟩
        have h2 : w.cell? ⟨b, off, none⟩ = some (Value.int k (zs.getD 0 0)) := by simpa [Addr.add] using h1
        exact World.block_lt_of_cell? w ⟨b, off, none⟩ h2
    · refine hwz _ ?_
      have : i < zs.length := by omega
      simp only [List.getD_eq_getElem?_getD, List.getElem?_eq_getElem this, Option.getD_some]
      exact List.getElem_mem this
    · simp [lits]; omega

end Go.Proofs.Ygctaf
