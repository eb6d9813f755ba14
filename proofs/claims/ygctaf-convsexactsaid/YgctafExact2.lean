/-
  WALK: law.exactDFT
-/
import Derived.Test.YgctafExact
namespace Go.Proofs.Ygctaf
open Go.RowKit Ieee
attribute [local go_sem] run_store_complex run_store_float CV_eq FV_eq

def wJ (cj : Bool) (h : Nat) (T : Nat → Nat × Nat) (n j i : Nat) : Nat × Nat := if cj then cconj (wF h T (i * j % n)) else wF h T (i * j % n)
/-- Both parts are numbers. -/
structure Nm (z : Nat × Nat) : Prop where
  n1 : Num z.1
  l1 : z.1 < 2 ^ 64
  n2 : Num z.2
  l2 : z.2 < 2 ^ 64
theorem Nm.neg {z : Nat × Nat} (h : Nm z) : Nm (fneg z.1, fneg z.2) := ⟨(neg_num h.l1 h.n1).1, neg_lt h.l1, (neg_num h.l2 h.n2).1, neg_lt h.l2⟩
theorem Nm.conj {z : Nat × Nat} (h : Nm z) : Nm (cconj z) := ⟨h.n1, h.l1, (neg_num h.l2 h.n2).1, neg_lt h.l2⟩
theorem wF_nm {h m : Nat} {T : Nat → Nat × Nat} (hT : ∀ i, i < h → Nm (T i)) (hm : m < 2 * h) : Nm (wF h T m) := by
  unfold wF
  split
  · rename_i g; exact hT m g
  · exact (hT (m - h) (by omega)).neg
theorem wJ_nm {cj : Bool} {h n j i : Nat} {T : Nat → Nat × Nat} (hT : ∀ i, i < h → Nm (T i)) (hn : n = 2 * h) (h0 : 0 < h) : Nm (wJ cj h T n j i) := by
  have hm : i * j % n < 2 * h := by rw [hn]; exact Nat.mod_lt _ (by omega)
  unfold wJ
  split
  · exact (wF_nm hT hm).conj
  · exact wF_nm hT hm

set_option maxRecDepth 20000 in
set_option maxHeartbeats 2000000 in
theorem exactDFT_any (cj : Bool) (xb n xcap tb h tcap j : Nat) (f T : Nat → Nat × Nat) (w : World) (hn : n = 2 * h) (h0 : 0 < h) (hh : h ≤ 1024) (hj : j < n)
    (hX : Own CV w xb n f) (hT : Own CV w tb h T) (nX : ∀ i, i < n → Nm (f i)) (nT : ∀ i, i < h → Nm (T i)) :
    Calls Tafg.prog 50 #[.slice (some ⟨xb, 0, none⟩) n xcap, .slice (some ⟨tb, 0, none⟩) h tcap, .int .i64 (j : Int), .bool cj] w fun e w' =>
      e = .returned (.agg (digs2 (exR f (wJ cj h T n j) n) (exI f (wJ cj h T n j) n)).toArray) ∧ Frm [] w w' := by
  have hz := (zero_of_info Tafg.info72).1
  have HX := hid hX
  have HT := hid hT
  have HNX := hid nX
  have HNT := hid nT
  have HN := hid hn
  have hxs := hX.1
  have hts := hT.1
  have hb : n ≤ 2048 := by omega
  clear hX hT nX nT hn
  go_enter Tafg.func50, Tafg.ntmps50
  go_wp2_with fail
  generalize hW0 : (w.alloc (.cells Z136 72)).alloc (.cells Z136 72) = W0
  have s0 : CAcc W0 (w.heap.size + 1) 0 0 0 := by
    have := cacc_new (w.alloc (.cells Z136 72))
    rw [show (w.alloc (.cells Z136 72)).heap.size = w.heap.size + 1 from by simp] at this
    rw [← hW0]; exact this
  have r0 : CAcc W0 w.heap.size 0 0 0 := by rw [← hW0]; exact (cacc_new w).alloc _
  have f0 : Frm [] w W0 := by rw [← hW0]; exact ((Frm.refl [] w).alloc _).alloc _
  have HS0 := hid s0
  have HR0 := hid r0
  have HF0 := hid f0
  clear s0 r0 f0 hW0
  go_loopw [11, 12] (fun i _ wr => ∃ k : Nat, k ≤ n ∧ i = .int .i64 (k : Int) ∧ CAcc wr (w.heap.size + 1) 0 (exR f (wJ cj h T n j) k) (exI f (wJ cj h T n j) k) ∧ CAcc wr w.heap.size 0 0 0 ∧ Frm [] w wr) (fun i _ _ => n - (intOf i).toNat)
  case atStart => exact ⟨0, Nat.zero_le _, rfl, HS0.out, HR0.out, HF0.out⟩
  case round =>
    obtain ⟨k, hk, rfl, hs, hr, hf⟩ := hrel
    by_cases hlt : k < n
    · have c1 := (HX.out.frame hf (by simp)).cell hlt
      have hT1 := HT.out.frame hf (by simp)
      obtain ⟨p, hp⟩ : ∃ p, p = k * j := ⟨_, rfl⟩
      obtain ⟨m, hm⟩ : ∃ m, m = p % n := ⟨_, rfl⟩
      have hmn : m < n := by rw [hm]; exact Nat.mod_lt _ (by omega)
      have p1 : (k : Int) * (j : Int) = (p : Int) := by rw [hp]; simp
      have p2' : p ≤ 2048 * 2048 := by rw [hp]; exact Nat.mul_le_mul (by omega) (by omega)
      have p3 : (p : Int).tmod (n : Int) = (m : Int) := by rw [Int.tmod_eq_emod_of_nonneg (by omega), hm]; simp
      have p4 : ((n : Int) == 0) = false := by simp; omega
      have hwv := w_any tb h tcap m T wr hh (by have := HN.out; omega) hT1
      have r2 := run_fneg (wF h T m).2
      have nz := HNX.out k hlt
      have nw := wJ_nm (cj := cj) (n := n) (j := j) (i := k) HNT.out HN.out h0
      have ew : wJ cj h T n j k = if cj then cconj (wF h T m) else wF h T m := by unfold wJ; rw [← hp, ← hm]
      have ham := caccAddMul_any (w.heap.size + 1) 0 (f k) (wJ cj h T n j k) _ _ wr nz.l1 nz.n1 nz.l2 nz.n2 nw.l1 nw.n1 nw.l2 nw.n2 hs
      rw [ew] at ham
      have HR := hid hr
      have HF := hid hf
      have HAM := hid ham
      have HEW := hid ew
      clear hs hr hf ham ew nz nw hT1 hp hm
      cases cj
      · go_wp2_with (first | (go_at_call 62; refine hwv.mono ?_; rintro e w' ⟨rfl, rfl⟩))
        refine Calls.mono HAM.out ?_
        rintro e w1 ⟨rfl, hc, hob⟩
        have hr1 := HR.out.frame hob.1 (by simp)
        have hf1 := HF.out.seq (U := []) hob.1 (by simp) (by simp)
        have hc' : CAcc w1 (w.heap.size + 1) 0 (exR f (wJ false h T n j) (k + 1)) (exI f (wJ false h T n j) (k + 1)) := by
          show CAcc w1 _ 0 (exR f (wJ false h T n j) k + PZ (f k).1 (wJ false h T n j k).1 + PZ (fneg (f k).2) (wJ false h T n j k).2) (exI f (wJ false h T n j) k + PZ (f k).1 (wJ false h T n j k).2 + PZ (f k).2 (wJ false h T n j k).1)
          rw [HEW.out]; exact hc
        have HC := hid hc'
        have HR1 := hid hr1
        have HF1 := hid hf1
        clear hc hc' hr1 hf1 hob
        go_wp2
        go_roundw
        case rel => exact ⟨k + 1, by omega, by go_num, HC.out, HR1.out, HF1.out⟩
        case measure => simp [intOf]; omega
      · go_wp2_with (first | (go_at_call 62; refine hwv.mono ?_; rintro e w' ⟨rfl, rfl⟩))
        refine Calls.mono HAM.out ?_
        rintro e w1 ⟨rfl, hc, hob⟩
        have hr1 := HR.out.frame hob.1 (by simp)
        have hf1 := HF.out.seq (U := []) hob.1 (by simp) (by simp)
        have hc' : CAcc w1 (w.heap.size + 1) 0 (exR f (wJ true h T n j) (k + 1)) (exI f (wJ true h T n j) (k + 1)) := by
          show CAcc w1 _ 0 (exR f (wJ true h T n j) k + PZ (f k).1 (wJ true h T n j k).1 + PZ (fneg (f k).2) (wJ true h T n j k).2) (exI f (wJ true h T n j) k + PZ (f k).1 (wJ true h T n j k).2 + PZ (f k).2 (wJ true h T n j k).1)
          rw [HEW.out]; exact hc
        have HC := hid hc'
        have HR1 := hid hr1
        have HF1 := hid hf1
        clear hc hc' hr1 hf1 hob
        go_wp2
        go_roundw
        case rel => exact ⟨k + 1, by omega, by go_num, HC.out, HR1.out, HF1.out⟩
        case measure => simp [intOf]; omega
    · have e : k = n := by omega
      subst e
      iterate 24 go_step
      refine wpList_load_mid rfl 72 _ rfl (w.heap.size + 1) 0 rfl (digs2 _ _) _ hs.range Tafg.underlying72 rfl (size72L _ _) ?_
      refine wpList_store_mid rfl 72 _ _ rfl w.heap.size 0 (digs2 _ _).toArray rfl rfl (hr.there2 _ _) (size72A _ _) (digs2_one _ _) ?_
      have hr2 := cacc_setCells hr (exR f (wJ cj h T k j) k) (exI f (wJ cj h T k j) k)
      have hf2 := hf.seq (U := []) (frm_setCells w.heap.size (digs2 (exR f (wJ cj h T k j) k) (exI f (wJ cj h T k j) k)) 0 wr).1 (by simp) (by simp)
      iterate 4 go_step
      exact bodyPost_ret (results_cell_one rfl _ _ ⟨w.heap.size, 0, none⟩ _ rfl (run_loadVar_mid _ _ 0 72 (digs2 _ _) _ hr2.range Tafg.underlying72 rfl (size72L _ _))) rfl ⟨rfl, hf2⟩
end Go.Proofs.Ygctaf
