/-
  'Rows.RootsNearSaid', proved: the guide's own frame (the shell that lay beside the statement), with the builder that hands on the row's reach.
-/
import Derived.Test.YgctafRootsNear
namespace Go.Proofs.Ygctaf.rootsNear
open Go.ChangeShapes Go.WideShapes Go.ChangeAt Go.RowKit
set_option linter.unusedVariables false


set_option maxRecDepth 100000 in
theorem lifted (os : Os) (started : os.Started) (H : Type) (enc : TypeId × Value → H) :
    ReturnsInHanded {} Tafg.checked os 11 .any (Rows.rootsNearSpec.pre6 enc Tafg.prog Tafg.f11 Rows.rootsNearRow.domain false) (Rows.rootsNearSpec.post enc Tafg.prog Tafg.f11 false true false false) := by
  refine returnsInHanded_of_change_sized (C := Tafg.checked) Tafg.own started (by kernel_rfl) Tafg.func11
    (ChangeSpec.witness6 (enc := enc) (C := Tafg.checked) false ⟨#[], #[.int .i64 0, .int .u16 0], []⟩ 8 (by kernel_rfl) (by kernel_rfl) (by kernel_rfl) (by kernel_rfl)) ?_
  intro W base args ds gs before hval0 hW hcnd hsz0 _
  have hval : ∀ (j : Nat) t v, Tafg.f11.params[j]? = some t → args[j]? = some v → Value.okWide Tafg.prog W .any base t v := hval0
  have hsz : (DataW.weightsEach Tafg.prog (Tafg.f11.params.toList ++ Rows.rootsNearSpec.plain.varTypes Tafg.prog) (ds ++ gs)).all (· ≤ reachBytes) = true := hsz0
  have hW' := hW
  obtain ⟨p, q, hA0, hV, rfl, hfz, hnd⟩ := hW
  have hA : DataW.TrodAll enc Tafg.prog W 0 (fun _ => true) true Tafg.f11.params.toList args.toList ds p := hA0
  rw [Tafg.params11] at hA hval hsz
  obtain ⟨v0, vs0, d0, ds0, p0, q0, hargs, rfl, rfl, h0, r0⟩ := trodAll_cons hA
  obtain ⟨v1, vs1, d1, ds1, p1, q1, rfl, rfl, rfl, h1, r1⟩ := trodAll_cons r0
  obtain ⟨rfl, rfl, rfl⟩ := trodAll_nil r1
  obtain rfl : args = #[v0, v1] := by cases args; simp_all
  obtain ⟨rfl, rfl⟩ := trodVars_none hV
  obtain ⟨a0, rfl, rfl, rfl, w0⟩ := open_int Tafg.underlying3 (hval 0 3 v0 rfl rfl) h0
  obtain ⟨a1, rfl, rfl, rfl, w1⟩ := open_int Tafg.underlying78 (hval 1 78 v1 rfl rfl) h1
  clear hA0 hval0
  refine (rootsNear_int a0 a1 W (by have := bounds_u16 w1; omega) (by have := bounds_u16 w1; omega)).mono fun e W' ⟨he, fr⟩ => ?_
  have bel := fr.below
  subst he
  exact ⟨_, rfl, _, _, _, [], _, [], hW', trodAll_mk1 (shut_bool Tafg.underlying4 _), (trodAll_cons_mk (shut_int Tafg.underlying3 w0) (trodAll_cons_mk (shut_int Tafg.underlying78 w1) trodAll_mk0)), rfl, bel.frame _, fun h => by cases h⟩

theorem over : Rows.rootsNearRow.holds Tafg.pinned (OpenSpec.ofChange Rows.rootsNearSpec) :=
  OpenClaim.holds_of_wide 11 Tafg.f11 rfl rfl rfl rfl rfl rfl rfl ⟨rfl, rfl, rfl, rfl, rfl⟩ rfl rfl rfl rfl rfl (by kernel_rfl) Tafg.func11 (by kernel_rfl)
    (of_decide_eq_true (by kernel_rfl)) (by unfold Func.isWrapper; first | (rw [if_pos (by decide +kernel)]; kernel_rfl) | (rw [if_neg (by decide +kernel)]; exact ⟨rfl, rfl⟩))
    (fun os started H enc _ => lifted os started H enc)

/-- THE STATEMENT -/
theorem proved : Rows.RootsNearSaid := over
#print axioms proved
end Go.Proofs.Ygctaf.rootsNear
