/-
  law.RootsNear
-/
import Derived.Test.YgctafRootsLaw
namespace Go.Proofs.Ygctaf
open Go.RowKit Ieee
attribute [local go_sem] run_store_complex run_store_float CV_eq FV_eq

theorem root_nat (n k : Nat) (jj : Int) (h0 : 0 < n) (hn : n ≤ 2048) (hk : jj % (n : Int) = (k : Int)) (w : World) :
    Calls Tafg.prog 57 #[.int .i64 (n : Int), .int .i64 jj] w fun r w' => r = .returned (CV (rootF n k)) ∧ w' = w := by
  have := root_any n jj h0 hn w
  rw [hk, Int.toNat_natCast] at this
  exact this

set_option maxRecDepth 20000 in
set_option maxHeartbeats 2000000 in
theorem rootsNear_out (n : Int) (jj : Nat) (hj : jj < 65536) (h : n < 1 ∨ 2048 < n) (w : World) :
    Calls Tafg.prog 11 #[.int .i64 n, .int .u16 (jj : Int)] w fun e w' => e = .returned (.bool true) ∧ Frm [] w w' := by
  have c1 := root_zero n (jj : Int) h
  have c2 := bitsC_same (0, 0)
  rcases h with h | h
  · go_enter Tafg.func11, Tafg.ntmps11
    go_wp2_with (first | (go_at_call 57; refine same_mono (c1 _) ?_) | (go_at_call 37; refine same_mono (c2 _) ?_))
    go_ret
    exact ⟨rfl, Frm.refl _ _⟩
  · have h2 : decide (n < 1) = false := by simp; omega
    go_enter Tafg.func11, Tafg.ntmps11
    go_wp2_with (first | (go_at_call 57; refine same_mono (c1 _) ?_) | (go_at_call 37; refine same_mono (c2 _) ?_))
    go_ret
    exact ⟨rfl, Frm.refl _ _⟩

set_option maxRecDepth 20000 in
set_option maxHeartbeats 4000000 in
theorem rootsNear_in (n jj : Nat) (hj : jj < 65536) (h0 : 0 < n) (hn : n ≤ 2048) (w : World) :
    Calls Tafg.prog 11 #[.int .i64 (n : Int), .int .u16 (jj : Int)] w fun e w' => e = .returned (.bool true) ∧ Frm [] w w' := by
  have hz := (zero_of_info Tafg.info31).1
  have hz72 := (zero_of_info Tafg.info72).1
  obtain ⟨at', hat⟩ : ∃ a, a = jj % n := ⟨_, rfl⟩
  have hal : at' < n := by rw [hat]; exact Nat.mod_lt _ h0
  have e1 : ((jj : Int)).tmod (n : Int) = (at' : Int) := by
    rw [Int.tmod_eq_emod_of_nonneg (by omega), hat, Int.natCast_emod]
  have c1 := root_nat n at' (at' : Int) h0 hn (Int.emod_eq_of_lt (by omega) (by omega))
  have c2 := root_nat n (1 % n) 1 h0 hn (by rw [Int.natCast_emod]; rfl)
  have c3 := root_nat n ((at' + 1) % n) ((at' : Int) + 1) h0 hn (by rw [Int.natCast_emod]; rfl)
  have c4 := root_nat n at' ((at' : Int) - (n : Int)) h0 hn (by rw [Int.sub_emod_right]; exact Int.emod_eq_of_lt (by omega) (by omega))
  have HU := hid (unit_ok h0 hn hal)
  obtain ⟨s1, s2⟩ := step_ok h0 hn hal
  have HS1 := hid s1
  have HS2 := hid s2
  have zm := (root_near h0 hn hal).1.nm
  have om := (root_near_mod h0 hn (j := 1) h0).1.nm
  have xm := (root_near_mod h0 hn (j := at' + 1) hal).1.nm
  have hT := hid (show at' * 2048 % n = 0 → rootF n at' = wF 1024 (tabF 11) (at' * 2048 / n) from fun h => by rw [rootF_eq, if_pos h]; rfl)
  clear s1 s2 hat
  generalize rootF n at' = z at *
  generalize rootF n (1 % n) = o at *
  generalize rootF n ((at' + 1) % n) = x at *
  have f1 := finiteC_any z zm.l1 zm.n1 zm.l2 zm.n2
  have f2 := finiteC_any o om.l1 om.n1 om.l2 om.n2
  have f3 := finiteC_any x xm.l1 xm.n1 xm.l2 xm.n2
  have c5 := sameC_self z
  go_enter Tafg.func11, Tafg.ntmps11
  go_wp2_with fail
  refine same_mono (c1 _) ?_
  go_wp2_with fail
  refine same_mono (c2 _) ?_
  go_wp2_with fail
  refine same_mono (c3 _) ?_
  go_wp2_with fail
  refine same_mono (f1 _) ?_
  go_wp2_with fail
  refine same_mono (f2 _) ?_
  go_wp2_with fail
  refine same_mono (f3 _) ?_
  go_wp2_with fail
  refine same_mono (c4 _) ?_
  go_wp2_with fail
  refine same_mono (c5 _) ?_
  go_wp2_with fail
  refine (accOf_any _ w (by decide) b49_val.1).mono ?_
  rintro e w1 ⟨rfl, g1⟩
  go_wp2_with fail
  refine (accOf_any _ w1 (by decide) b48_val.1).mono ?_
  rintro e w2 ⟨rfl, g2⟩
  go_wp2_with fail
  refine (accOf_any _ w2 (by decide) b49_val.1).mono ?_
  rintro e w3 ⟨rfl, g3⟩
  have k3 := (g1.trans g2).trans g3
  clear g1 g2 g3 f1 f2 f3 c1 c2 c3 c4 c5
  dsimp only
  iterate 10 go_step
  have a1 := ((arr_new w3).alloc (.cells Z68 31)).alloc (.cells Z68 31)
  have a2 := (arr_new (w3.alloc (.cells Z68 31))).alloc (.cells Z68 31)
  have a3 := arr_new ((w3.alloc (.cells Z68 31)).alloc (.cells Z68 31))
  have k4 : Frm [] w (((w3.alloc (.cells Z68 31)).alloc (.cells Z68 31)).alloc (.cells Z68 31)) := ((k3.alloc _).alloc _).alloc _
  have hs3 := k3.size
  rw [show (w3.alloc (.cells Z68 31)).heap.size = w3.heap.size + 1 from by simp] at a2
  rw [show ((w3.alloc (.cells Z68 31)).alloc (.cells Z68 31)).heap.size = w3.heap.size + 2 from by simp] at a3
  obtain ⟨P, hP⟩ : ∃ P, P = FZ 4386506037058863104 := ⟨_, rfl⟩
  obtain ⟨Q, hQ⟩ : ∃ Q, Q = FZ 4391009636686233600 := ⟨_, rfl⟩
  have iP := in49
  have iQ := in48
  rw [← hP] at HU iP
  rw [← hQ] at HS1 HS2 iQ
  rw [← hP, ← hQ]
  generalize hW : ((w3.alloc (.cells Z68 31)).alloc (.cells Z68 31)).alloc (.cells Z68 31) = W at *
  generalize w3.heap.size = A at *
  clear hW
  refine wpList_store_mid rfl 31 _ _ rfl A 0 (digsL P).toArray rfl rfl (a1.there2 _) (size31A _) (digsL_one _) ?_
  have b1 := arr_setCells a1 P
  have b2 := (only_setCells W A 0 P).arr a2 (.inl (by omega))
  have b3 := (only_setCells W A 0 P).arr a3 (.inl (by omega))
  have k5 := k4.seq (U := []) (frm_setCells A (digsL P) 0 W).1 (by simp) (by simp; omega)
  generalize W.setCells A 0 (digsL P) = W1 at *
  clear a1 a2 a3 k4
  refine wpList_store_mid rfl 31 _ _ rfl (A + 1) 0 (digsL Q).toArray rfl rfl (b2.there2 _) (size31A _) (digsL_one _) ?_
  have a2 := arr_setCells b2 Q
  have a1 := (only_setCells W1 (A + 1) 0 Q).arr b1 (.inl (by omega))
  have a3 := (only_setCells W1 (A + 1) 0 Q).arr b3 (.inl (by omega))
  have k6 := k5.seq (U := []) (frm_setCells (A + 1) (digsL Q) 0 W1).1 (by simp) (by simp; omega)
  generalize W1.setCells (A + 1) 0 (digsL Q) = W2 at *
  clear b1 b2 b3 k5
  refine wpList_store_mid rfl 31 _ _ rfl (A + 2) 0 (digsL P).toArray rfl rfl (a3.there2 _) (size31A _) (digsL_one _) ?_
  have b3 := arr_setCells a3 P
  have b1 := (only_setCells W2 (A + 2) 0 P).arr a1 (.inl (by omega))
  have b2 := (only_setCells W2 (A + 2) 0 P).arr a2 (.inl (by omega))
  have k7 := k6.seq (U := []) (frm_setCells (A + 2) (digsL P) 0 W2).1 (by simp) (by simp; omega)
  generalize W2.setCells (A + 2) 0 (digsL P) = W3 at *
  clear a1 a2 a3 k6
  -- the length
  go_wp2_with fail
  refine (unitDefect_any z W3 zm).mono ?_
  rintro e w4 ⟨rfl, g4⟩
  have a1 := b1.frame g4 (by simp)
  have a2 := b2.frame g4 (by simp)
  have a3 := b3.frame g4 (by simp)
  have k8 := k7.trans g4
  clear b1 b2 b3 k7 g4
  go_wp2_with fail
  have ho := HU.out
  have e2 : decide (((udZ z).natAbs : Int) ≤ P) = true := by simpa using ho.le
  have cs := small_any A 0 (udZ z) P w4 ho.i ho.a iP a1
  rw [e2] at cs
  refine cs.mono ?_
  rintro e w5 ⟨rfl, g5⟩
  have b2 := a2.frame g5 (by simp)
  have b3 := a3.frame g5 (by simp)
  have k9 := k8.trans g5
  clear a1 a2 a3 k8 g5 cs ho e2 HU
  have hs5 := k9.size
  have q0 := cacc_new w5
  have c2 := b2.alloc (.cells Z136 72)
  have c3 := b3.alloc (.cells Z136 72)
  have l2 := b2.1
  have l3 := b3.1
  have k10 : Frm [] w (w5.alloc (.cells Z136 72)) := k9.alloc _
  clear b2 b3 k9
  go_wp2_with fail
  generalize w5.alloc (.cells Z136 72) = W5 at *
  generalize w5.heap.size = C at *
  refine (caccAddMul_any C 0 z o 0 0 W5 zm.l1 zm.n1 zm.l2 zm.n2 om.l1 om.n1 om.l2 om.n2 q0).mono ?_
  rintro e w6 ⟨rfl, q1, o6⟩
  have b2 := c2.frame o6.1 (by simp; omega)
  have b3 := c3.frame o6.1 (by simp; omega)
  have k11 := k10.seq (U := []) o6.1 (by simp) (by simp; omega)
  clear c2 c3 k10 o6 q0
  go_wp2_with fail
  refine (caccSub_any C 0 x _ _ w6 xm.l1 xm.n1 xm.l2 xm.n2 q1).mono ?_
  rintro e w7 ⟨rfl, q2, o7⟩
  have a2 := b2.frame o7.1 (by simp; omega)
  have a3 := b3.frame o7.1 (by simp; omega)
  have k12 := k11.seq (U := []) o7.1 (by simp) (by simp; omega)
  clear b2 b3 k11 o7 q1
  go_wp2_with fail
  have t1 := HS1.out
  have t2 := HS2.out
  refine (within_any C 0 (A + 1) 0 _ _ Q w7 t1.i t1.a t2.i t2.a iQ q2 a2 t1.le t2.le).mono ?_
  rintro e w8 ⟨rfl, g8⟩
  have b3 := a3.frame g8 (by simp)
  have k13 := k12.trans g8
  clear a2 a3 k12 g8 q2 t1 t2 HS1 HS2
  by_cases hr : at' * 2048 % n = 0
  · have e3 : ((at' : Int) * 2048).tmod (n : Int) = 0 := by
      rw [Int.tmod_eq_emod_of_nonneg (by omega)]
      have : (((at' * 2048 % n : Nat)) : Int) = 0 := by rw [hr]; rfl
      rw [Int.natCast_emod] at this
      exact this
    obtain ⟨m, hm⟩ : ∃ m, m = at' * 2048 / n := ⟨_, rfl⟩
    have e4 : ((at' : Int) * 2048).tdiv (n : Int) = (m : Int) := by
      rw [Int.tdiv_eq_ediv_of_nonneg (by omega), hm, Int.natCast_ediv]; rfl
    have hml : m < 2048 := by rw [hm, Nat.div_lt_iff_lt_mul h0, Nat.mul_comm]; exact Nat.mul_lt_mul_of_pos_left hal (by decide)
    have ez := hT.out hr
    rw [← hm] at ez
    have HEZ := hid ez
    clear hT ez hr hm
    have hs8 := k13.size
    have q0 := cacc_new w8
    have c3 := b3.alloc (.cells Z136 72)
    have l4 := b3.1
    have k14 : Frm [] w (w8.alloc (.cells Z136 72)) := k13.alloc _
    clear b3 k13
    go_wp2_with fail
    generalize w8.alloc (.cells Z136 72) = W8 at *
    generalize w8.heap.size = D at *
    refine (caccAdd_any D 0 z 0 0 W8 zm.l1 zm.n1 zm.l2 zm.n2 q0).mono ?_
    rintro e w9 ⟨rfl, q1, o9⟩
    have b3 := c3.frame o9.1 (by simp; omega)
    have k15 := k14.seq (U := []) o9.1 (by simp) (by simp; omega)
    clear c3 k14 o9 q0
    have hD := q1.1.1
    have tab := fun w2 => table_any 10 1024 (by decide) (by decide) w2
    have p4 : ((n : Int) == 0) = false := by simp; omega
    have wm : Nm (wF 1024 (tabF 11) m) := by rw [← HEZ.out]; exact zm
    have q1d : CAcc w9.drew D 0 (0 + FZ z.1) (0 + FZ z.2) := q1
    have b3d : Arr w9.drew (A + 2) 0 (dg P) := b3
    have k15d : Frm [] w w9.drew := k15.drew
    clear q1 b3 k15
    go_wp2_with fail
    go_region_with (first
      | (go_at_call 17; refine (tab _).mono ?_; rintro e wT ⟨rfl, hown, fT⟩)
      | (go_at_call 62; refine same_mono (w_any _ 1024 1024 m (tabF 11) wT (by decide) (by omega) hown) ?_)
      | (go_at_call 51; refine (caccSub_any D 0 _ _ _ wT wm.l1 wm.n1 wm.l2 wm.n2 (CAcc.frame q1d fT (by simp))).mono ?_; rintro e wS ⟨rfl, q2, oS⟩))
    all_goals
      rw [← HEZ.out] at q2
      have bT := (b3d.frame fT (by simp)).frame oS.1 (by simp; omega)
      have kT := (k15d.trans fT).seq (U := []) oS.1 (by simp) (by simp; omega)
      have t1 := none_ok zm.l1 zm.n1
      have t2 := none_ok zm.l2 zm.n2
      rw [← hP] at t1 t2
      clear fT oS hown b3d k15d q1d wm
      go_wp2_with fail
      refine (within_any D 0 (A + 2) 0 _ _ P wS t1.i t1.a t2.i t2.a iP q2 bT t1.le t2.le).mono ?_
      rintro e wV ⟨rfl, gV⟩
      have kV := hid (kT.trans gV)
      clear t1 t2 gV kT bT q2
      go_wp2
      go_ret
      exact ⟨rfl, kV.out⟩
  · obtain ⟨r, hr2⟩ : ∃ r, r = at' * 2048 % n := ⟨_, rfl⟩
    have e3 : ((at' : Int) * 2048).tmod (n : Int) = (r : Int) := by
      rw [Int.tmod_eq_emod_of_nonneg (by omega), hr2, Int.natCast_emod]; rfl
    have e4 : ((r : Int) != 0) = true := by simp; omega
    clear hr hr2 hT
    go_wp2
    go_ret
    exact ⟨rfl, k13⟩
theorem rootsNear_int (n jj : Int) (w : World) (h0 : 0 ≤ jj) (h1 : jj < 65536) :
    Calls Tafg.prog 11 #[.int .i64 n, .int .u16 jj] w fun e w' => e = .returned (.bool true) ∧ Frm [] w w' := by
  obtain ⟨k, rfl⟩ : ∃ k : Nat, jj = (k : Int) := ⟨jj.toNat, by omega⟩
  by_cases h : n < 1 ∨ 2048 < n
  · exact rootsNear_out n k (by omega) h w
  · obtain ⟨m, rfl⟩ : ∃ m : Nat, n = (m : Int) := ⟨n.toNat, by omega⟩
    exact rootsNear_in m k (by omega) (by omega) (by omega) w
end Go.Proofs.Ygctaf
