/-
  'Rows.ConvsExactSaid', proved: the guide's own frame (the shell that lay beside the statement), with the builder that hands on the row's reach.
-/
import Derived.Test.YgctafConvsExact
namespace Go.Proofs.Ygctaf.convsExact
open Go.ChangeShapes Go.WideShapes Go.ChangeAt Go.RowKit
set_option linter.unusedVariables false

theorem bytes5 : Tafg.prog.bytesOf 5 = 1 := by kernel_rfl

set_option maxRecDepth 100000 in
theorem lifted (os : Os) (started : os.Started) (H : Type) (enc : TypeId × Value → H) :
    ReturnsInHanded {} Tafg.checked os 14 .any (Rows.convsExactSpec.pre6 enc Tafg.prog Tafg.f14 Rows.convsExactRow.domain false) (Rows.convsExactSpec.post enc Tafg.prog Tafg.f14 false true false false) := by
  refine returnsInHanded_of_change_sized (C := Tafg.checked) Tafg.own started (by kernel_rfl) Tafg.func14
    (ChangeSpec.witness6 (enc := enc) (C := Tafg.checked) false ⟨#[], #[.slice none 0 0, .slice none 0 0], []⟩ 8 (by kernel_rfl) (by kernel_rfl) (by kernel_rfl) (by kernel_rfl)) ?_
  intro W base args ds gs before hval0 hW hcnd hsz0 _
  have hval : ∀ (j : Nat) t v, Tafg.f14.params[j]? = some t → args[j]? = some v → Value.okWide Tafg.prog W .any base t v := hval0
  have hsz : (DataW.weightsEach Tafg.prog (Tafg.f14.params.toList ++ Rows.convsExactSpec.plain.varTypes Tafg.prog) (ds ++ gs)).all (· ≤ reachBytes) = true := hsz0
  have hW' := hW
  obtain ⟨p, q, hA0, hV, rfl, hfz, hnd⟩ := hW
  have hA : DataW.TrodAll enc Tafg.prog W 0 (fun _ => true) true Tafg.f14.params.toList args.toList ds p := hA0
  rw [Tafg.params14] at hA hval hsz
  obtain ⟨v0, vs0, d0, ds0, p0, q0, hargs, rfl, rfl, h0, r0⟩ := trodAll_cons hA
  obtain ⟨v1, vs1, d1, ds1, p1, q1, rfl, rfl, rfl, h1, r1⟩ := trodAll_cons r0
  obtain ⟨rfl, rfl, rfl⟩ := trodAll_nil r1
  obtain rfl : args = #[v0, v1] := by cases args; simp_all
  obtain ⟨rfl, rfl⟩ := trodVars_none hV
  obtain ⟨a0, len0, cap0, rfl⟩ := okWide_slice Tafg.underlying54 (hval 0 54 v0 rfl rfl)
  have k0 := h0
  have lt0 : ∀ x ∈ p0, x.block < W.heap.size := by obtain ⟨m, hm⟩ := k0; exact DataW.trod_lt m _ _ _ hm
  obtain ⟨zs0, hrow0, hwf0, hd0⟩ := open_row Tafg.underlying54 Tafg.underlying5 (by kernel_rfl) h0
  have hlen0 : len0 * 1 ≤ 140737488351232 := by
    rcases hd0 with h | ⟨elems, sp, hde, hl⟩
    · omega
    · subst hde
      have := sized_slice hsz (j := 0) (t := 54) (e := 5) rfl rfl Tafg.underlying54
      rw [bytes5] at this
      simp only [reachBytes] at this
      omega
  obtain ⟨a1, len1, cap1, rfl⟩ := okWide_slice Tafg.underlying54 (hval 1 54 v1 rfl rfl)
  have k1 := h1
  have lt1 : ∀ x ∈ p1, x.block < W.heap.size := by obtain ⟨m, hm⟩ := k1; exact DataW.trod_lt m _ _ _ hm
  obtain ⟨zs1, hrow1, hwf1, hd1⟩ := open_row Tafg.underlying54 Tafg.underlying5 (by kernel_rfl) h1
  have hlen1 : len1 * 1 ≤ 140737488351232 := by
    rcases hd1 with h | ⟨elems, sp, hde, hl⟩
    · omega
    · subst hde
      have := sized_slice hsz (j := 1) (t := 54) (e := 5) rfl rfl Tafg.underlying54
      rw [bytes5] at this
      simp only [reachBytes] at this
      omega
  clear hA0 hval0
  refine (convsExact_any a0 a1 len0 cap0 len1 cap1 zs0 zs1 W (by omega) (by omega) (open_cap Tafg.underlying54 Tafg.underlying5 (by kernel_rfl) k0) (open_cap Tafg.underlying54 Tafg.underlying5 (by kernel_rfl) k1) hrow0 hrow1 (fun i hi => by have := bounds_u8 (hwf0 i hi); omega) (fun i hi => by have := bounds_u8 (hwf1 i hi); omega)).mono fun e W' ⟨he, fr⟩ => ?_
  have bel := fr.below
  subst he
  exact ⟨_, rfl, _, _, _, [], _, [], hW', trodAll_mk1 (shut_bool Tafg.underlying4 _), (trodAll_cons_mk (Below.trod Tafg.laidOut (by kernel_rfl) (of_decide_eq_true (by kernel_rfl)) k0 bel lt0) (trodAll_cons_mk (Below.trod Tafg.laidOut (by kernel_rfl) (of_decide_eq_true (by kernel_rfl)) k1 bel lt1) trodAll_mk0)), rfl, bel.frame _, fun h => by cases h⟩

theorem over : Rows.convsExactRow.holds Tafg.pinned (OpenSpec.ofChange Rows.convsExactSpec) :=
  OpenClaim.holds_of_wide 14 Tafg.f14 rfl rfl rfl rfl rfl rfl rfl ⟨rfl, rfl, rfl, rfl, rfl⟩ rfl rfl rfl rfl rfl (by kernel_rfl) Tafg.func14 (by kernel_rfl)
    (of_decide_eq_true (by kernel_rfl)) (by unfold Func.isWrapper; first | (rw [if_pos (by decide +kernel)]; kernel_rfl) | (rw [if_neg (by decide +kernel)]; exact ⟨rfl, rfl⟩))
    (fun os started H enc _ => lifted os started H enc)

/-- THE STATEMENT -/
theorem proved : Rows.ConvsExactSaid := over
#print axioms proved
end Go.Proofs.Ygctaf.convsExact
