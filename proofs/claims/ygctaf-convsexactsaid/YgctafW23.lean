/-
  WALKS: law.partsAtMost, law.copyC, law.vector, law.nearBound
-/
import Derived.Test.YgctafW22
import Derived.Laws.CopyOwn
import Derived.Test.YgctafRoundAllRight
namespace Go.Proofs.Ygctaf
open Go.RowKit Ieee
attribute [local go_sem] run_store_complex run_store_float CV_eq FV_eq

set_option maxHeartbeats 1000000 in
theorem partsAtMost_any (xb n xcap : Nat) (f : Nat → Nat × Nat) (w : World) (hb : n ≤ 2048) (hX : Own CV w xb n f) (hl : ∀ i, i < n → (f i).1 < 2 ^ 64 ∧ (f i).2 < 2 ^ 64) :
    Calls Tafg.prog 16 #[.slice (some ⟨xb, 0, none⟩) n xcap, .int .i64 35] w fun e w' => (e = .returned (.bool false) ∧ w' = w) ∨ (e = .returned (.bool true) ∧ w' = w ∧ ∀ i, i < n → Bd 35 (f i)) := by
  have HX := hid hX
  have HL := hid hl
  clear hX hl
  go_enter Tafg.func16, Tafg.ntmps16
  go_wp2
  go_loop [4, 5] (fun _ i => ∃ k : Nat, k ≤ n ∧ i = .int .i64 (k : Int) ∧ ∀ i, i < k → Bd 35 (f i)) (fun _ i => n - (intOf i).toNat)
  case atStart => exact ⟨0, Nat.zero_le _, rfl, fun i hi => by omega⟩
  case round =>
    obtain ⟨k, hk, rfl, hg⟩ := hrel
    have HG := hid hg
    clear hg
    by_cases hlt : k < n
    · have c1 := HX.out.cell hlt
      have a1 := atMost_any (f k).1 (HL.out k hlt).1 35
      have a2 := atMost_any (f k).2 (HL.out k hlt).2 35
      cases g1 : atMostB (f k).1 35
      · rw [g1] at a1
        clear g1
        go_wp2_with fail
        refine same_mono (a1 _) ?_
        go_wp2
        go_ret
        exact .inl ⟨rfl, rfl⟩
      · cases g2 : atMostB (f k).2 35
        · rw [g1] at a1
          rw [g2] at a2
          clear g1 g2
          go_wp2_with fail
          refine same_mono (a1 _) ?_
          go_wp2_with fail
          refine same_mono (a2 _) ?_
          go_wp2
          go_ret
          exact .inl ⟨rfl, rfl⟩
        · rw [g1] at a1
          rw [g2] at a2
          have b1 := (atMostB_iff _ (HL.out k hlt).1 35).1 g1
          have b2 := (atMostB_iff _ (HL.out k hlt).2 35).1 g2
          have hg : ∀ i, i < k + 1 → Bd 35 (f i) := fun i hi => by
            by_cases e : i = k
            · subst e; exact ⟨⟨b1.1, (HL.out i hlt).1, b1.2⟩, ⟨b2.1, (HL.out i hlt).2, b2.2⟩⟩
            · exact HG.out i (by omega)
          have HG2 := hid hg
          clear g1 g2 b1 b2 hg
          go_wp2_with fail
          refine same_mono (a1 _) ?_
          go_wp2_with fail
          refine same_mono (a2 _) ?_
          go_wp2
          go_round
          case rel => exact ⟨k + 1, by omega, by go_num, HG2.out⟩
          case measure => simp [intOf]; omega
    · have e : k = n := by omega
      subst e
      go_wp2
      go_ret
      exact .inr ⟨rfl, rfl, HG.out⟩

/-! ### copy -/
theorem wpList_copy_cells {P : Program} {w : World} {ops : Array Oper} {rest : List Oper} {o : Oper} {a : Act} {Q : Exit → Act → World → Prop} (hgd : o.guard = none) (d s : Operand) (dT sT : TypeId)
    (ho : o.op = .call { callee := .builtin .copy, args := #[d, s], argTypes := #[dT, sT] }) (elem : TypeId) (hu : P.underlying dT = some (.slice elem)) (hsz : (P.info? elem).map (·.size) = some 1)
    (b off dLen dCap : Nat) (ad : Addr) (sLen sCap : Nat) (hd : a.eval d = .slice (some ⟨b, off, none⟩) dLen dCap) (hs : a.eval s = .slice (some ad) sLen sCap)
    (cs : List Value) (hn : cs.length = Nat.min sLen dLen)
    (hsrc : ∀ j v, cs[j]? = some v → w.cell? (ad.add j) = some v) (hc : ∀ j, j < cs.length → (w.cell? ⟨b, off + j, none⟩).isSome = true) (hf : ∀ j, j < cs.length → w.frozen? ⟨b, off + j, none⟩ = false) (h1 : ∀ v ∈ cs, v.oneCell' = true)
    (h : wpList P ops Q rest (a.put o.dst (goInt cs.length)) (w.setCells b off cs)) : wpList P ops Q (o :: rest) a w := by
  refine wpList_plain hgd fun K hK => ?_
  have hrun := run_copy_cells (P := P) w dT sT o.type elem b off dLen dCap ad sLen sCap cs hu hsz hn hsrc hc hf h1
  unfold Oper.wp
  simp [execOp, ho, resolve, invoke, builtin, hd, hs, hrun, Result.andThen]
  exact hK _ _ h

def cvL (n : Nat) (f : Nat → Nat × Nat) : List Value := (List.range n).map fun i => CV (f i)
theorem cvL_len (n : Nat) (f : Nat → Nat × Nat) : (cvL n f).length = n := by unfold cvL; rw [List.length_map, List.length_range]
theorem cvL_get {n : Nat} {f : Nat → Nat × Nat} {j : Nat} {v : Value} (h : (cvL n f)[j]? = some v) : j < n ∧ v = CV (f j) := by
  have hj : j < n := by
    have := (List.getElem?_eq_some_iff.1 h).1
    rw [cvL_len] at this; exact this
  refine ⟨hj, ?_⟩
  unfold cvL at h
  rw [List.getElem?_map, List.getElem?_range hj] at h
  simp at h; exact h.symm
theorem cvL_one (n : Nat) (f : Nat → Nat × Nat) : ∀ v ∈ cvL n f, v.oneCell' = true := fun v hv => by
  unfold cvL at hv
  rw [List.mem_map] at hv
  obtain ⟨i, _, rfl⟩ := hv
  rfl
theorem Own.setCells {w : World} {b n : Nat} {f g : Nat → Nat × Nat} (h : Own CV w b n g) : Own CV (w.setCells b 0 (cvL n f)) b n f := by
  have hr := World.rangeAt_setCells_same w b 0 (cvL n f) (fun j hj => by
    rw [cvL_len] at hj
    rw [Nat.zero_add]
    exact ⟨by rw [h.cell hj]; rfl, h.free hj⟩)
  refine ⟨by rw [(frm_setCells b _ 0 w).2]; exact h.1, fun i hi => ⟨?_, by rw [World.frozen?_setCells]; exact h.free hi⟩⟩
  have := hr i (CV (f i)) (by unfold cvL; rw [List.getElem?_map, List.getElem?_range hi]; rfl)
  rw [Nat.zero_add] at this; exact this

theorem Tafg.size42 : (Tafg.prog.info? 42).map (·.size) = some 1 := by
  obtain ⟨i0, hi, _, hz1, _⟩ := info_parts Tafg.info42
  rw [hi]; show some i0.size = some 1; rw [hz1]

set_option maxHeartbeats 1000000 in
theorem copyC_any (xb n xcap : Nat) (f : Nat → Nat × Nat) (w : World) (hb : n ≤ 2048) (hX : Own CV w xb n f) :
    Calls Tafg.prog 18 #[.slice (some ⟨xb, 0, none⟩) n xcap] w fun e w' =>
      e = .returned (.slice (some ⟨w.heap.size, 0, none⟩) n n) ∧ Own CV w' w.heap.size n f ∧ Frm [] w w' := by
  have hmk := make_c n (by omega)
  have HX := hid hX
  clear hX
  go_enter Tafg.func18, Tafg.ntmps18
  iterate 34 go_step
  have o0 : Own CV (w.alloc (.cells (madeCells #[Value.complex .f64 0 0] n) 42)) w.heap.size n (fun _ => (0, 0)) := Own.madeC
  have x0 := HX.out.alloc (.cells (madeCells #[Value.complex .f64 0 0] n) 42)
  have f0 : Frm [] w (w.alloc (.cells (madeCells #[Value.complex .f64 0 0] n) 42)) := (Frm.refl _ _).alloc _
  generalize w.alloc (.cells (madeCells #[Value.complex .f64 0 0] n) 42) = W at *
  have hl := cvL_len n f
  refine wpList_copy_cells rfl (.tmp 7) (.tmp 8) 23 23 rfl 42 Tafg.underlying23 Tafg.size42 w.heap.size 0 n n ⟨xb, 0, none⟩ n xcap rfl rfl (cvL n f) (by rw [hl]; exact (Nat.min_self n).symm) ?_ ?_ ?_ (cvL_one n f) ?_
  · intro j v hv
    obtain ⟨hj, rfl⟩ := cvL_get hv
    have := x0.cell hj
    have e : (⟨xb, 0, none⟩ : Addr).add j = ⟨xb, j, none⟩ := by
      unfold Addr.add
      split
      · rename_i h0; rw [h0]
      · simp
    rw [e]; exact this
  · intro j hj
    rw [hl] at hj
    rw [Nat.zero_add, o0.cell hj]; rfl
  · intro j hj
    rw [hl] at hj
    rw [Nat.zero_add]; exact o0.free hj
  · have o1 := hid (o0.setCells (f := f))
    have f1 := hid (f0.seq (U := []) (frm_setCells w.heap.size (cvL n f) 0 W).1 (by simp) (by simp))
    clear o0 x0 f0
    generalize W.setCells w.heap.size 0 (cvL n f) = W1 at *
    go_wp2
    go_ret
    exact ⟨rfl, o1.out, f1.out⟩

/-! ### vector -/
set_option maxHeartbeats 1000000 in
theorem vector_any (a : Option Addr) (len cap : Nat) (zs : Nat → Int) (w : World) (hlen : len * 8 ≤ 140737488351232) (hr : InRow .u64 w a len zs) :
    Calls Tafg.prog 15 #[.slice a len cap] w fun e w' =>
      (e = .returned (.tuple #[.slice none 0 0, .int .i64 (-1)]) ∧ Frm [] w w') ∨
      (∃ k n : Nat, k ≤ 11 ∧ n = 2 ^ k ∧ e = .returned (.tuple #[.slice (some ⟨w.heap.size, 0, none⟩) n n, .int .i64 (k : Int)]) ∧ Own CV w' w.heap.size n (pairF zs) ∧ Frm [] w w' ∧ 2 * n ≤ len) := by
  have hp := pairs_any a len cap zs w hlen hr
  obtain ⟨L, hL⟩ : ∃ L, L = len / 2 := ⟨_, rfl⟩
  rw [← hL] at hp
  have HL := hid hL
  have hLb : L * 16 ≤ 140737488351232 := by omega
  clear hr hL hlen
  go_enter Tafg.func15, Tafg.ntmps15
  go_wp2_with fail
  refine hp.mono ?_
  rintro e w1 ⟨rfl, ho, hf⟩
  have HO := hid ho
  have HF := hid hf
  clear ho hf hp
  go_wp2_with fail
  refine (cut_full L w1).mono ?_
  rintro e w2 ⟨kk, rfl, rfl, hkk, h1, h2⟩
  rcases Nat.eq_zero_or_pos kk with h0 | h0
  · subst h0
    go_wp2
    go_ret2
    exact .inl ⟨rfl, HF.out⟩
  · obtain ⟨k, rfl⟩ : ∃ k, kk = k + 1 := ⟨kk - 1, by omega⟩
    have e1 : ((k + 1 : Nat) : Int) - 1 = (k : Int) := by omega
    rw [e1]
    have hle : 2 ^ k ≤ L := by
      rcases h1 with h1 | h1
      · omega
      · rw [Nat.add_sub_cancel] at h1; exact h1
    obtain ⟨n, hn⟩ : ∃ n, n = 2 ^ k := ⟨_, rfl⟩
    rw [← hn] at hle
    have ws := wrap_at (j := k) (by omega) hn
    have HN := hid hn
    have hn0 : 0 < n := by rw [hn]; exact Nat.two_pow_pos _
    clear hn h1 h2 e1
    go_wp2
    go_quiet (fail)
    go_wp2
    go_ret2
    exact .inr ⟨k, n, by omega, HN.out, rfl, HO.out.less hle, HF.out.drewN nq, by have := HL.out; omega⟩

/-! ### nearBound -/
theorem bnd_word (k : Nat) (hk : k ≤ 11) : Num (fmul (fint ((2 ^ k : Nat) : Int)) 4427038433705197568) ∧ fmul (fint ((2 ^ k : Nat) : Int)) 4427038433705197568 < 2 ^ 64 ∧ V (fmul (fint ((2 ^ k : Nat) : Int)) 4427038433705197568) = p2 ((k : Int) - 40) := by
  have h : ∀ k : Fin 12, double.read (fmul (fint ((2 ^ k.1 : Nat) : Int)) 4427038433705197568) = .number false (2 ^ 52) ((k.1 : Int) - 92) ∧ fmul (fint ((2 ^ k.1 : Nat) : Int)) 4427038433705197568 < 2 ^ 64 := by decide +kernel
  obtain ⟨h1, h2⟩ := h ⟨k, by omega⟩
  have := const_val h1
  rw [sgn_false, Rat.one_mul] at this
  refine ⟨this.1, h2, this.2.trans ?_⟩
  congr 1; show (k : Int) - 92 + 52 = _; omega
theorem bnd_tiny : Num 103582791429521408 ∧ V 103582791429521408 = p2 (-1000) := by
  have := const_val (c := 103582791429521408) (s := false) (i := -1052) (by decide +kernel)
  rw [sgn_false, Rat.one_mul] at this; exact this

set_option maxRecDepth 20000 in
set_option maxHeartbeats 1000000 in
theorem nearBound_any (xb n xcap k : Nat) (f : Nat → Nat × Nat) (w : World) (hk : k ≤ 11) (hn : n = 2 ^ k) (hX : Own CV w xb n f) (hB : ∀ i, i < n → Bd 35 (f i)) :
    Calls Tafg.prog 19 #[.slice (some ⟨xb, 0, none⟩) n xcap] w fun e w' =>
      ∃ (m : Nat) (B : Int), e = .returned (.agg (digsL B).toArray) ∧ Frm [] w w' ∧ Grt n f m ∧ (B : Rat) = bndV k (V m) * p2 2148 := by
  have hz := (zero_of_info Tafg.info31).1
  have hb : n ≤ 2048 := by rw [hn]; exact Nat.pow_le_pow_right (by decide) hk
  obtain ⟨c1, c2, c3⟩ := bnd_word k hk
  rw [← hn] at c1 c2 c3
  have hfi := floatOfInt_eq
  have hfn := (fint_pow_val k hk).1
  rw [← hn] at hfn
  have hmul := run_fmul (y := 4427038433705197568) hfn (const_val (c := 4427038433705197568) (s := false) (i := -92) (by decide +kernel)).1
  have hg := greatest_any xb n xcap f (w.alloc (.cells Z68 31)) hb (hX.alloc _) hB
  have HX := hid hX
  have hxs := hX.1
  clear hX hB hn
  generalize hc : fmul (fint (n : Int)) 4427038433705197568 = c at *
  go_enter Tafg.func19, Tafg.ntmps19
  go_wp2_with fail
  refine hg.mono ?_
  rintro e w1 ⟨m, rfl, rfl, hG⟩
  have HG := hid hG
  have hGl := hG.b.lt
  have hGn := hG.b.num
  clear hG hg hc
  go_wp2_with fail
  refine (accProd_any m c _ hGl hGn c2 c1).mono ?_
  rintro e w1 ⟨rfl, f1⟩
  have r0 : Arr (w.alloc (.cells Z68 31)) w.heap.size 0 (dg 0) := arr_new w
  have r1 := r0.frame f1 (by simp)
  have g1 : Frm [] w w1 := ((Frm.refl [] w).alloc _).trans f1
  have hvP := PZ_val hGl hGn c2 c1
  have hvT := FZ_val (x := 103582791429521408) (by decide) bnd_tiny.1
  rw [bnd_tiny.2] at hvT
  rw [c3] at hvP
  have hvB : ((PZ m c + FZ 103582791429521408 : Int) : Rat) = bndV k (V m) * p2 2148 := by
    unfold bndV
    rw [Rat.intCast_add, hvP, hvT]; grind
  have HVB := hid hvB
  clear f1 r0 hvP hvT hvB hmul hfn
  generalize PZ m c = P at *
  dsimp only
  iterate 4 go_step
  have a0 := arr_new w1
  have r2 := r1.alloc (.cells Z68 31)
  have g2 : Frm [] w (w1.alloc (.cells Z68 31)) := g1.alloc _
  have hs1 := g1.size
  have hr1 := r1.1
  generalize w1.alloc (.cells Z68 31) = W at *
  generalize w1.heap.size = A at *
  refine wpList_store_mid rfl 31 _ _ rfl A 0 (digsL P).toArray rfl rfl (a0.there2 _) (size31A _) (digsL_one _) ?_
  have o1 := only_setCells W A 0 P
  have a1 := arr_setCells a0 P
  have r3 := o1.arr r2 (.inl (by omega))
  have g3 := g2.seq (U := []) o1.frm (by simp) (by simp; omega)
  generalize W.setCells A 0 (digsL P) = W1 at *
  clear o1 a0 r2 g2 r1 g1
  have HA1 := hid a1
  have HR3 := hid r3
  have HG3 := hid g3
  clear a1 r3 g3
  go_wp2_with fail
  refine (addFloat_any A 0 103582791429521408 P W1 (by decide) bnd_tiny.1 HA1.out).mono ?_
  rintro e w2 ⟨rfl, a2, on2⟩
  have r4 := on2.arr HR3.out (.inl (by omega))
  have g4 := HG3.out.seq (U := []) on2.frm (by simp) (by simp; omega)
  clear HA1 HR3 HG3 on2
  generalize P + FZ 103582791429521408 = BB at *
  dsimp only
  iterate 6 go_step
  refine wpList_load_mid rfl 31 _ rfl A 0 rfl (digsL BB) _ a2.range Tafg.underlying31 rfl (size31L _) ?_
  refine wpList_store_mid rfl 31 _ _ rfl w.heap.size 0 (digsL BB).toArray rfl rfl (r4.there2 _) (size31A _) (digsL_one _) ?_
  have r5 := arr_setCells r4 BB
  have g5 : Frm [] w (w2.setCells w.heap.size 0 (digsL BB)) := g4.seq (frm_setCells w.heap.size (digsL BB) 0 w2).1 (by simp) (by simp)
  iterate 4 go_step
  exact bodyPost_ret (results_cell_one rfl _ _ ⟨w.heap.size, 0, none⟩ _ rfl (run_loadVar_mid _ _ 0 31 (digsL BB) _ r5.range Tafg.underlying31 rfl (size31L _))) rfl ⟨m, BB, rfl, g5, HG.out, HVB.out⟩
end Go.Proofs.Ygctaf
