/-
  WALK: law.nearDFT (two points and more)
-/
import Derived.Test.YgctafW19
import Derived.Test.YgctafW20
import Derived.Test.YgctafNearLaw
import Derived.Test.YgctafShl
namespace Go.Proofs.Ygctaf
open Go.RowKit Ieee
attribute [local go_sem] run_store_complex run_store_float CV_eq FV_eq

set_option maxRecDepth 20000 in
set_option maxHeartbeats 4000000 in
theorem nearDFT_gen (cj : Bool) (xb n xcap gb gcap k bb bo : Nat) (tv : Value) (f G : Nat → Nat × Nat) (XR XI : Nat → Int) (B : Int) (w : World) (hk : k ≤ 11) (hnk : n = 2 ^ k)
    (hX : Own CV w xb n f) (hG : Own CV w gb n G) (hB : Arr w bb bo (dg B)) (iB : InAcc B) (nG : ∀ i, i < n → Nm (G i))
    (hex : ∀ j, j < n → ∀ wr, Frm [] w wr → Calls Tafg.prog 50 #[.slice (some ⟨xb, 0, none⟩) n xcap, tv, .int .i64 (j : Int), .bool cj] wr fun e w' => e = .returned (.agg (digs2 (XR j) (XI j)).toArray) ∧ Frm [] wr w')
    (ok1 : ∀ j, j < n → OffOk B (XR j + subZ cj k (G j).1)) (ok2 : ∀ j, j < n → OffOk B (XI j + subZ cj k (G j).2)) :
    Calls Tafg.prog 21 #[.slice (some ⟨xb, 0, none⟩) n xcap, .slice (some ⟨gb, 0, none⟩) n gcap, tv, .bool cj, .pointer (some ⟨bb, bo, none⟩)] w fun e w' =>
      e = .returned (.bool true) ∧ Frm [] w w' := by
  have hz := (zero_of_info Tafg.info72).1
  have hcut := cut_pow n k hk hnk
  have HX := hid hX
  have HG := hid hG
  have HBB := hid hB
  have HNG := hid nG
  have HO1 := hid ok1
  have HO2 := hid ok2
  have hb : n ≤ 2048 := by rw [hnk]; exact Nat.pow_le_pow_right (by decide) hk
  have HEX0 := hid hex
  clear hX hG hB nG ok1 ok2 hnk hex
  go_enter Tafg.func21, Tafg.ntmps21
  go_wp2_with (first | (go_at_call 46; refine same_mono (hcut _) ?_))
  go_loopw [10, 12, 13, 14] (fun _ i _ _ wr => ∃ j : Nat, j ≤ n ∧ i = .int .i64 (j : Int) ∧ Frm [] w wr) (fun _ i _ _ _ => n - (intOf i).toNat)
  case atStart => exact ⟨0, Nat.zero_le _, rfl, Frm.refl _ _⟩
  case round =>
    obtain ⟨j, hj, rfl, hf⟩ := hrel
    by_cases hlt : j < n
    · have hG1 := HG.out.frame hf (by simp)
      have c1 := hG1.cell hlt
      have ng := HNG.out j hlt
      have hfin := finiteC_any (G j) ng.l1 ng.n1 ng.l2 ng.n2
      have hex := HEX0.out j hlt wr hf
      have HEX := hid hex
      have HF := hid hf
      clear hex hG1 hf
      go_wp2_with (first | (go_at_call 52; refine same_mono (hfin _) ?_))
      refine Calls.mono HEX.out ?_
      rintro e w1 ⟨rfl, f1⟩
      have g1 := HF.out.trans f1
      clear HEX HF f1
      dsimp only
      iterate 4 go_step
      have q0 := cacc_new w1
      obtain ⟨X, hXe⟩ : ∃ X, X = XR j := ⟨_, rfl⟩
      obtain ⟨Y, hYe⟩ : ∃ Y, Y = XI j := ⟨_, rfl⟩
      have o1 := HO1.out j hlt
      have o2 := HO2.out j hlt
      rw [← hXe] at o1
      rw [← hYe] at o2
      rw [← hXe, ← hYe]
      have gW : Frm [] w (w1.alloc (.cells Z136 72)) := g1.alloc _
      have hs1 := g1.size
      generalize hW : w1.alloc (.cells Z136 72) = W at *
      have hWs : W.heap.size = w1.heap.size + 1 := by rw [← hW]; simp
      generalize w1.heap.size = A at *
      refine wpList_store_mid rfl 72 _ _ rfl A 0 (digs2 X Y).toArray rfl rfl (q0.there2 _ _) (size72A _ _) (digs2_one _ _) ?_
      have q1 := cacc_setCells q0 X Y
      have gW1 := gW.seq (U := []) (frm_setCells A (digs2 X Y) 0 W).1 (by simp) (by simp; omega)
      have hW1s := (frm_setCells A (digs2 X Y) 0 W).2
      generalize hW1 : W.setCells A 0 (digs2 X Y) = W1 at *
      clear hW hW1 q0 gW
      have gW2 : Frm [] w (W1.alloc (.cells Z136 72)) := gW1.alloc _
      have c2 := (HG.out.frame gW2 (by simp)).cell hlt
      have q2 := q1.alloc (.cells Z136 72)
      have z0 := cacc_new W1
      rw [hW1s, hWs] at z0
      have hb2 := HBB.out.frame gW2 (by simp)
      have hbb0 := HBB.out.1
      have Ho1 := hid o1
      have Ho2 := hid o2
      have Hng := hid ng
      clear o1 o2 ng hXe hYe c1 q1 gW1
      iterate 8 go_step
      clear hW1s hWs g1
      generalize W1.alloc (.cells Z136 72) = W2 at *
      have Hq2 := hid q2
      have Hz0 := hid z0
      have Hb2 := hid hb2
      have HG2 := hid gW2
      clear q2 z0 hb2 gW2
      go_wp2_with fail
      refine (caccSub_any (A + 1) 0 (G j) 0 0 W2 Hng.out.l1 Hng.out.n1 Hng.out.l2 Hng.out.n2 Hz0.out).mono ?_
      rintro e w2 ⟨rfl, z1, ob2⟩
      rw [Int.zero_add, Int.zero_add] at z1
      have q3 := Hq2.out.frame ob2.1 (by simp)
      have hb3 := Hb2.out.frame ob2.1 (by simp; omega)
      have g2 := HG2.out.seq (U := []) ob2.1 (by simp) (by simp; omega)
      clear Hq2 Hb2 HG2 ob2 Hz0 c2
      cases cj
      · have ho1 : OffOk B (X + FZ (fneg (G j).1)) := Ho1.out
        have ho2 : OffOk B (Y + FZ (fneg (G j).2)) := Ho2.out
        clear Ho1 Ho2
        generalize FZ (fneg (G j).1) = P at *
        generalize FZ (fneg (G j).2) = Q at *
        go_wp2_with fail
        refine (add_any A 0 (A + 1) 0 X P w2 q3.1 z1.1 (.inl (by omega))).mono ?_
        rintro e w3 ⟨rfl, a1, on1⟩
        have q4 := on1.arr q3.2 (.inr (.inr (by omega)))
        have z2 := on1.arr z1.2 (.inl (by omega))
        have hb4 := hb3.frame on1.frm (by simp; omega)
        have g3 := g2.seq (U := []) on1.frm (by simp) (by simp; omega)
        clear on1 q3 z1 hb3 g2
        go_wp2_with fail
        refine (add_any A (0 + 68) (A + 1) (0 + 68) Y Q w3 q4 z2 (.inl (by omega))).mono ?_
        rintro e w4 ⟨rfl, a2, on2⟩
        have a3 := on2.arr a1 (.inr (.inl (by omega)))
        have hb5 := hb4.frame on2.frm (by simp; omega)
        have g4 := g3.seq (U := []) on2.frm (by simp) (by simp; omega)
        clear on2 q4 z2 hb4 g3 a1
        go_wp2_with fail
        refine (within_any A 0 bb bo (X + P) (Y + Q) B w4 ho1.i ho1.a ho2.i ho2.a iB ⟨a3, a2⟩ hb5 ho1.le ho2.le).mono ?_
        rintro e w5 ⟨rfl, f5⟩
        have g5 := hid (g4.trans f5)
        clear f5 g4 a3 a2 hb5 ho1 ho2
        go_wp2
        go_roundw
        case rel => exact ⟨j + 1, by omega, by go_num, g5.out⟩
        case measure => simp [intOf]; omega
      · have ho1 : OffOk B (X + FZ (fneg (G j).1) * 2 ^ k) := Ho1.out
        have ho2 : OffOk B (Y + FZ (fneg (G j).2) * 2 ^ k) := Ho2.out
        clear Ho1 Ho2
        have hk64 : k < 64 := by omega
        generalize FZ (fneg (G j).1) = P0 at *
        generalize FZ (fneg (G j).2) = Q0 at *
        go_wp2_with fail
        refine (shl_any (A + 1) 0 k P0 w2 hk64 z1.1).mono ?_
        rintro e w3 ⟨rfl, s1, on1⟩
        have q4 := q3.frame on1.frm (by simp)
        have s2 := on1.arr z1.2 (.inr (.inr (by omega)))
        have hb4 := hb3.frame on1.frm (by simp; omega)
        have g3 := g2.seq (U := []) on1.frm (by simp) (by simp; omega)
        clear on1 q3 z1 hb3 g2
        go_wp2_with fail
        refine (shl_any (A + 1) (0 + 68) k Q0 w3 hk64 s2).mono ?_
        rintro e w4 ⟨rfl, s3, on2⟩
        have q5 := q4.frame on2.frm (by simp)
        have s4 := on2.arr s1 (.inr (.inl (by omega)))
        have hb5 := hb4.frame on2.frm (by simp; omega)
        have g4 := g3.seq (U := []) on2.frm (by simp) (by simp; omega)
        clear on2 q4 s2 s1 hb4 g3
        generalize P0 * 2 ^ k = P at *
        generalize Q0 * 2 ^ k = Q at *
        go_wp2_with fail
        refine (add_any A 0 (A + 1) 0 X P w4 q5.1 s4 (.inl (by omega))).mono ?_
        rintro e w5 ⟨rfl, a1, on1⟩
        have q6 := on1.arr q5.2 (.inr (.inr (by omega)))
        have z2 := on1.arr s3 (.inl (by omega))
        have hb6 := hb5.frame on1.frm (by simp; omega)
        have g5 := g4.seq (U := []) on1.frm (by simp) (by simp; omega)
        clear on1 q5 s3 s4 hb5 g4
        go_wp2_with fail
        refine (add_any A (0 + 68) (A + 1) (0 + 68) Y Q w5 q6 z2 (.inl (by omega))).mono ?_
        rintro e w6 ⟨rfl, a2, on2⟩
        have a3 := on2.arr a1 (.inr (.inl (by omega)))
        have hb7 := hb6.frame on2.frm (by simp; omega)
        have g6 := g5.seq (U := []) on2.frm (by simp) (by simp; omega)
        clear on2 q6 z2 hb6 g5 a1
        go_wp2_with fail
        refine (within_any A 0 bb bo (X + P) (Y + Q) B w6 ho1.i ho1.a ho2.i ho2.a iB ⟨a3, a2⟩ hb7 ho1.le ho2.le).mono ?_
        rintro e w7 ⟨rfl, f5⟩
        have g7 := hid (g6.trans f5)
        clear f5 g6 a3 a2 hb7 ho1 ho2
        go_wp2
        go_roundw
        case rel => exact ⟨j + 1, by omega, by go_num, g7.out⟩
        case measure => simp [intOf]; omega
    · have HF := hid hf
      clear hf
      go_wp2
      go_ret
      exact ⟨rfl, HF.out⟩

theorem nearDFT_any (cj : Bool) (xb n xcap gb gcap tb h tcap k bb bo : Nat) (f G T : Nat → Nat × Nat) (B : Int) (w : World) (hn : n = 2 * h) (h0 : 0 < h) (hh : h ≤ 1024) (hk : k ≤ 11) (hnk : n = 2 ^ k)
    (hX : Own CV w xb n f) (hG : Own CV w gb n G) (hT : Own CV w tb h T) (hB : Arr w bb bo (dg B)) (iB : InAcc B) (nX : ∀ i, i < n → Nm (f i)) (nG : ∀ i, i < n → Nm (G i)) (nT : ∀ i, i < h → Nm (T i))
    (ok1 : ∀ j, j < n → OffOk B (exR f (wJ cj h T n j) n + subZ cj k (G j).1)) (ok2 : ∀ j, j < n → OffOk B (exI f (wJ cj h T n j) n + subZ cj k (G j).2)) :
    Calls Tafg.prog 21 #[.slice (some ⟨xb, 0, none⟩) n xcap, .slice (some ⟨gb, 0, none⟩) n gcap, .slice (some ⟨tb, 0, none⟩) h tcap, .bool cj, .pointer (some ⟨bb, bo, none⟩)] w fun e w' =>
      e = .returned (.bool true) ∧ Frm [] w w' :=
  nearDFT_gen cj xb n xcap gb gcap k bb bo _ f G (fun j => exR f (wJ cj h T n j) n) (fun j => exI f (wJ cj h T n j) n) B w hk hnk hX hG hB iB nG
    (fun j hj wr hf => exactDFT_any cj xb n xcap tb h tcap j f T wr hn h0 hh hj (hX.frame hf (by simp)) (hT.frame hf (by simp)) nX nT) ok1 ok2
end Go.Proofs.Ygctaf
