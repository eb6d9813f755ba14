/-
  WALK: law.exactDFT over any table whose roots are known; of one point
-/
import Derived.Test.YgctafExact2
import Derived.Test.YgctafW21
namespace Go.Proofs.Ygctaf
open Go.RowKit Ieee
attribute [local go_sem] run_store_complex run_store_float CV_eq FV_eq

def wG (cj : Bool) (WF : Nat → Nat × Nat) (n j i : Nat) : Nat × Nat := if cj then cconj (WF (i * j % n)) else WF (i * j % n)
theorem wG_nm {cj : Bool} {n j i : Nat} {WF : Nat → Nat × Nat} (hW : ∀ i, i < n → Nm (WF i)) (h0 : 0 < n) : Nm (wG cj WF n j i) := by
  have hm : i * j % n < n := Nat.mod_lt _ h0
  unfold wG
  split
  · exact (hW _ hm).conj
  · exact hW _ hm

set_option maxRecDepth 20000 in
set_option maxHeartbeats 2000000 in
theorem exactDFT_gen (cj : Bool) (xb n xcap j : Nat) (tv : Value) (f WF : Nat → Nat × Nat) (w : World) (hb0 : 0 < n) (hb : n ≤ 2048) (hj : j < n)
    (hX : Own CV w xb n f) (hw : ∀ m, m < n → ∀ wr, Frm [] w wr → Calls Tafg.prog 62 #[tv, .int .i64 (m : Int)] wr fun e w' => e = .returned (CV (WF m)) ∧ w' = wr) (nX : ∀ i, i < n → Nm (f i)) (nW : ∀ i, i < n → Nm (WF i)) :
    Calls Tafg.prog 50 #[.slice (some ⟨xb, 0, none⟩) n xcap, tv, .int .i64 (j : Int), .bool cj] w fun e w' =>
      e = .returned (.agg (digs2 (exR f (wG cj WF n j) n) (exI f (wG cj WF n j) n)).toArray) ∧ Frm [] w w' := by
  have hz := (zero_of_info Tafg.info72).1
  have HX := hid hX
  have HWF := hid hw
  have HNX := hid nX
  have HNW := hid nW
  have hxs := hX.1
  clear hX hw nX nW
  go_enter Tafg.func50, Tafg.ntmps50
  go_wp2_with fail
  generalize hW0 : (w.alloc (.cells Z136 72)).alloc (.cells Z136 72) = W0
  have s0 : CAcc W0 (w.heap.size + 1) 0 0 0 := by
    have := cacc_new (w.alloc (.cells Z136 72))
    rw [show (w.alloc (.cells Z136 72)).heap.size = w.heap.size + 1 from by simp] at this
    rw [← hW0]; exact this
  have r0 : CAcc W0 w.heap.size 0 0 0 := by rw [← hW0]; exact (cacc_new w).alloc _
  have f0 : Frm [] w W0 := by rw [← hW0]; exact ((Frm.refl [] w).alloc _).alloc _
  have HS0 := hid s0
  have HR0 := hid r0
  have HF0 := hid f0
  clear s0 r0 f0 hW0
  go_loopw [11, 12] (fun i _ wr => ∃ k : Nat, k ≤ n ∧ i = .int .i64 (k : Int) ∧ CAcc wr (w.heap.size + 1) 0 (exR f (wG cj WF n j) k) (exI f (wG cj WF n j) k) ∧ CAcc wr w.heap.size 0 0 0 ∧ Frm [] w wr) (fun i _ _ => n - (intOf i).toNat)
  case atStart => exact ⟨0, Nat.zero_le _, rfl, HS0.out, HR0.out, HF0.out⟩
  case round =>
    obtain ⟨k, hk, rfl, hs, hr, hf⟩ := hrel
    by_cases hlt : k < n
    · have c1 := (HX.out.frame hf (by simp)).cell hlt
      obtain ⟨p, hp⟩ : ∃ p, p = k * j := ⟨_, rfl⟩
      obtain ⟨m, hm⟩ : ∃ m, m = p % n := ⟨_, rfl⟩
      have hmn : m < n := by rw [hm]; exact Nat.mod_lt _ (by omega)
      have p1 : (k : Int) * (j : Int) = (p : Int) := by rw [hp]; simp
      have p2' : p ≤ 2048 * 2048 := by rw [hp]; exact Nat.mul_le_mul (by omega) (by omega)
      have p3 : (p : Int).tmod (n : Int) = (m : Int) := by rw [Int.tmod_eq_emod_of_nonneg (by omega), hm]; simp
      have p4 : ((n : Int) == 0) = false := by simp; omega
      have hwv := HWF.out m hmn wr hf
      have r2 := run_fneg (WF m).2
      have nz := HNX.out k hlt
      have nw := wG_nm (cj := cj) (n := n) (j := j) (i := k) HNW.out hb0
      have ew : wG cj WF n j k = if cj then cconj (WF m) else WF m := by unfold wG; rw [← hp, ← hm]
      have ham := caccAddMul_any (w.heap.size + 1) 0 (f k) (wG cj WF n j k) _ _ wr nz.l1 nz.n1 nz.l2 nz.n2 nw.l1 nw.n1 nw.l2 nw.n2 hs
      rw [ew] at ham
      have HR := hid hr
      have HF := hid hf
      have HAM := hid ham
      have HEW := hid ew
      clear hs hr hf ham ew nz nw hp hm
      cases cj
      · go_wp2_with (first | (go_at_call 62; refine hwv.mono ?_; rintro e w' ⟨rfl, rfl⟩))
        refine Calls.mono HAM.out ?_
        rintro e w1 ⟨rfl, hc, hob⟩
        have hr1 := HR.out.frame hob.1 (by simp)
        have hf1 := HF.out.seq (U := []) hob.1 (by simp) (by simp)
        have hc' : CAcc w1 (w.heap.size + 1) 0 (exR f (wG false WF n j) (k + 1)) (exI f (wG false WF n j) (k + 1)) := by
          show CAcc w1 _ 0 (exR f (wG false WF n j) k + PZ (f k).1 (wG false WF n j k).1 + PZ (fneg (f k).2) (wG false WF n j k).2) (exI f (wG false WF n j) k + PZ (f k).1 (wG false WF n j k).2 + PZ (f k).2 (wG false WF n j k).1)
          rw [HEW.out]; exact hc
        have HC := hid hc'
        have HR1 := hid hr1
        have HF1 := hid hf1
        clear hc hc' hr1 hf1 hob
        go_wp2
        go_roundw
        case rel => exact ⟨k + 1, by omega, by go_num, HC.out, HR1.out, HF1.out⟩
        case measure => simp [intOf]; omega
      · go_wp2_with (first | (go_at_call 62; refine hwv.mono ?_; rintro e w' ⟨rfl, rfl⟩))
        refine Calls.mono HAM.out ?_
        rintro e w1 ⟨rfl, hc, hob⟩
        have hr1 := HR.out.frame hob.1 (by simp)
        have hf1 := HF.out.seq (U := []) hob.1 (by simp) (by simp)
        have hc' : CAcc w1 (w.heap.size + 1) 0 (exR f (wG true WF n j) (k + 1)) (exI f (wG true WF n j) (k + 1)) := by
          show CAcc w1 _ 0 (exR f (wG true WF n j) k + PZ (f k).1 (wG true WF n j k).1 + PZ (fneg (f k).2) (wG true WF n j k).2) (exI f (wG true WF n j) k + PZ (f k).1 (wG true WF n j k).2 + PZ (f k).2 (wG true WF n j k).1)
          rw [HEW.out]; exact hc
        have HC := hid hc'
        have HR1 := hid hr1
        have HF1 := hid hf1
        clear hc hc' hr1 hf1 hob
        go_wp2
        go_roundw
        case rel => exact ⟨k + 1, by omega, by go_num, HC.out, HR1.out, HF1.out⟩
        case measure => simp [intOf]; omega
    · have e : k = n := by omega
      subst e
      iterate 24 go_step
      refine wpList_load_mid rfl 72 _ rfl (w.heap.size + 1) 0 rfl (digs2 _ _) _ hs.range Tafg.underlying72 rfl (size72L _ _) ?_
      refine wpList_store_mid rfl 72 _ _ rfl w.heap.size 0 (digs2 _ _).toArray rfl rfl (hr.there2 _ _) (size72A _ _) (digs2_one _ _) ?_
      have hr2 := cacc_setCells hr (exR f (wG cj WF k j) k) (exI f (wG cj WF k j) k)
      have hf2 := hf.seq (U := []) (frm_setCells w.heap.size (digs2 (exR f (wG cj WF k j) k) (exI f (wG cj WF k j) k)) 0 wr).1 (by simp) (by simp)
      iterate 4 go_step
      exact bodyPost_ret (results_cell_one rfl _ _ ⟨w.heap.size, 0, none⟩ _ rfl (run_loadVar_mid _ _ 0 72 (digs2 _ _) _ hr2.range Tafg.underlying72 rfl (size72L _ _))) rfl ⟨rfl, hf2⟩

/-! ### One point -/
def oneC : Nat × Nat := (4607182418800017408, 0)
theorem oneC_num : Num 4607182418800017408 ∧ V 4607182418800017408 = 1 := by
  have := const_val (c := 4607182418800017408) (s := false) (i := -52) (by decide +kernel)
  rw [sgn_false, Rat.one_mul] at this
  exact ⟨this.1, this.2.trans p2_zero⟩
theorem oneC_nm : Nm oneC := ⟨oneC_num.1, by decide, num_zero.1, by decide⟩
theorem cv_oneC : cv oneC = .one := Cx.eq oneC_num.2 num_zero.2
theorem nearDFT_one (cj : Bool) (xb n xcap gb gcap tcap bb bo : Nat) (ta : Option Addr) (f G : Nat → Nat × Nat) (B : Int) (v : Rat) (w : World) (hn : n = 1)
    (hX : Own CV w xb n f) (hG : Own CV w gb n G) (hB : Arr w bb bo (dg B)) (vB : (B : Rat) = v * p2 2148) (hv0 : 0 ≤ v) (hv : v ≤ p2 100) (nX : Nm (f 0)) (nG : Nm (G 0)) (he : cv (G 0) = cv (f 0)) :
    Calls Tafg.prog 21 #[.slice (some ⟨xb, 0, none⟩) n xcap, .slice (some ⟨gb, 0, none⟩) n gcap, .slice ta 0 tcap, .bool cj, .pointer (some ⟨bb, bo, none⟩)] w fun e w' =>
      e = .returned (.bool true) ∧ Frm [] w w' := by
  have nW : Nm (wG cj (fun _ => oneC) n 0 0) := wG_nm (fun _ _ => oneC_nm) (by omega)
  have cW : cv (wG cj (fun _ => oneC) n 0 0) = .one := by
    unfold wG
    cases cj
    · exact cv_oneC
    · show cv (cconj oneC) = .one
      rw [cv_conjN oneC_nm, cv_oneC]
      exact Cx.eq rfl (by show -(0 : Rat) = 0; grind)
  have iB : InAcc B := by
    refine (inAcc_small ?_).1
    rw [vB, abs_mul, Rat.abs_of_nonneg hv0, Rat.abs_of_nonneg (p2_nonneg _)]
    have := Rat.mul_le_mul_of_nonneg_right hv (p2_nonneg 2148)
    rw [← p2_add] at this
    exact Rat.le_trans this (p2_le (by decide))
  have x := exC (f := f) (W := wG cj (fun _ => oneC) n 0) 1 (fun i hi => by rw [show i = 0 by omega]; exact nX) (fun i hi => by rw [show i = 0 by omega]; exact nW)
  have e1 : (sumC 1 fun i => (cv (f i)).mul (cv (wG cj (fun _ => oneC) n 0 i))) = cv (f 0) := by
    show Cx.zero.add ((cv (f 0)).mul (cv (wG cj (fun _ => oneC) n 0 0))) = _
    rw [Cx.zero_add, cW, Cx.mul_one]
  rw [e1] at x
  have he1 : V (G 0).1 = V (f 0).1 := congrArg Cx.re he
  have he2 : V (G 0).2 = V (f 0).2 := congrArg Cx.im he
  have hp : (if cj then p2 ((0 : Nat) : Int) else 1) = 1 := by
    cases cj
    · rfl
    · exact p2_zero
  have s1 := subZ_val cj (k := 0) nG.l1 nG.n1
  have s2 := subZ_val cj (k := 0) nG.l2 nG.n2
  rw [hp, he1] at s1
  rw [hp, he2] at s2
  have h0 : (0 : Rat).abs ≤ v := by rw [Rat.abs_of_nonneg Rat.le_refl]; exact hv0
  refine nearDFT_gen cj xb n xcap gb gcap 0 bb bo _ f G (fun j => exR f (wG cj (fun _ => oneC) n j) n) (fun j => exI f (wG cj (fun _ => oneC) n j) n) B w (by decide) hn hX hG hB iB (fun i hi => by rw [show i = 0 by omega]; exact nG)
    (fun j hj wr hf => exactDFT_gen cj xb n xcap j _ f (fun _ => oneC) wr (by omega) (by omega) hj (hX.frame hf (by simp)) (fun m hm wr' _ => by
      have : m = 0 := by omega
      subst this
      exact w_one ta tcap wr') (fun i hi => by rw [show i = 0 by omega]; exact nX) (fun _ _ => oneC_nm)) ?_ ?_
  · intro j hj
    have : j = 0 := by omega
    subst this
    subst hn
    refine off_of (u := 0) ?_ vB h0 hv
    rw [Rat.intCast_add, x.1, s1]
    show V (f 0).1 * _ + _ = _
    grind
  · intro j hj
    have : j = 0 := by omega
    subst this
    subst hn
    refine off_of (u := 0) ?_ vB h0 hv
    rw [Rat.intCast_add, x.2, s2]
    show V (f 0).2 * _ + _ = _
    grind
end Go.Proofs.Ygctaf
