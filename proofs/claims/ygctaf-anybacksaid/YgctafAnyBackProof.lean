/-
  'Rows.AnyBackSaid', proved: the guide's own frame (the shell that lay beside the statement), with the builder that hands on the row's reach.
-/
import Derived.Test.YgctafAnyBack
namespace Go.Proofs.Ygctaf.anyBack
open Go.ChangeShapes Go.WideShapes Go.ChangeAt Go.RowKit
set_option linter.unusedVariables false

theorem bytes21 : Tafg.prog.bytesOf 21 = 4 := by kernel_rfl

set_option maxRecDepth 100000 in
theorem lifted (os : Os) (started : os.Started) (H : Type) (enc : TypeId × Value → H) :
    ReturnsInHanded {} Tafg.checked os 13 .any (Rows.anyBackSpec.pre6 enc Tafg.prog Tafg.f13 Rows.anyBackRow.domain false) (Rows.anyBackSpec.post enc Tafg.prog Tafg.f13 false true false false) := by
  refine returnsInHanded_of_change_sized (C := Tafg.checked) Tafg.own started (by kernel_rfl) Tafg.func13
    (ChangeSpec.witness6 (enc := enc) (C := Tafg.checked) false ⟨#[], #[.slice none 0 0], []⟩ 8 (by kernel_rfl) (by kernel_rfl) (by kernel_rfl) (by kernel_rfl)) ?_
  intro W base args ds gs before hval0 hW hcnd hsz0 _
  have hval : ∀ (j : Nat) t v, Tafg.f13.params[j]? = some t → args[j]? = some v → Value.okWide Tafg.prog W .any base t v := hval0
  have hsz : (DataW.weightsEach Tafg.prog (Tafg.f13.params.toList ++ Rows.anyBackSpec.plain.varTypes Tafg.prog) (ds ++ gs)).all (· ≤ reachBytes) = true := hsz0
  have hW' := hW
  obtain ⟨p, q, hA0, hV, rfl, hfz, hnd⟩ := hW
  have hA : DataW.TrodAll enc Tafg.prog W 0 (fun _ => true) true Tafg.f13.params.toList args.toList ds p := hA0
  rw [Tafg.params13] at hA hval hsz
  obtain ⟨v0, vs0, d0, ds0, p0, q0, hargs, rfl, rfl, h0, r0⟩ := trodAll_cons hA
  obtain ⟨rfl, rfl, rfl⟩ := trodAll_nil r0
  obtain rfl : args = #[v0] := by cases args; simp_all
  obtain ⟨rfl, rfl⟩ := trodVars_none hV
  obtain ⟨a0, len0, cap0, rfl⟩ := okWide_slice Tafg.underlying37 (hval 0 37 v0 rfl rfl)
  have k0 := h0
  have lt0 : ∀ x ∈ p0, x.block < W.heap.size := by obtain ⟨m, hm⟩ := k0; exact DataW.trod_lt m _ _ _ hm
  obtain ⟨zs0, hrow0, hwf0, hd0⟩ := open_row Tafg.underlying37 Tafg.underlying21 (by kernel_rfl) h0
  have hlen0 : len0 * 4 ≤ 140737488351232 := by
    rcases hd0 with h | ⟨elems, sp, hde, hl⟩
    · omega
    · subst hde
      have := sized_slice hsz (j := 0) (t := 37) (e := 21) rfl rfl Tafg.underlying37
      rw [bytes21] at this
      simp only [reachBytes] at this
      omega
  clear hA0 hval0
  refine (anyBack_any a0 len0 cap0 zs0 W (by omega) hrow0).mono fun e W' ⟨he, fr⟩ => ?_
  have bel := fr.below
  subst he
  exact ⟨_, rfl, _, _, _, [], _, [], hW', trodAll_mk1 (shut_bool Tafg.underlying4 _), (trodAll_cons_mk (Below.trod Tafg.laidOut (by kernel_rfl) (of_decide_eq_true (by kernel_rfl)) k0 bel lt0) trodAll_mk0), rfl, bel.frame _, fun h => by cases h⟩

theorem over : Rows.anyBackRow.holds Tafg.pinned (OpenSpec.ofChange Rows.anyBackSpec) :=
  OpenClaim.holds_of_wide 13 Tafg.f13 rfl rfl rfl rfl rfl rfl rfl ⟨rfl, rfl, rfl, rfl, rfl⟩ rfl rfl rfl rfl rfl (by kernel_rfl) Tafg.func13 (by kernel_rfl)
    (of_decide_eq_true (by kernel_rfl)) (by unfold Func.isWrapper; first | (rw [if_pos (by decide +kernel)]; kernel_rfl) | (rw [if_neg (by decide +kernel)]; exact ⟨rfl, rfl⟩))
    (fun os started H enc _ => lifted os started H enc)

/-- THE STATEMENT -/
theorem proved : Rows.AnyBackSaid := over
#print axioms proved
end Go.Proofs.Ygctaf.anyBack
