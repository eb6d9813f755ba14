/-
  WALKS: acc.add, acc.sub, Acc.Sign
-/
import Derived.Test.YgctafAccNum
import Derived.Test.YgctafW1
import Derived.Laws.Externs
import Derived.Shelf.Spec.BitsCarry
namespace Go.Proofs.Ygctaf
open Go.RowKit

theorem add64_run (x y c : Int) (hx : 0 ≤ x) (hy : 0 ≤ y) (h0 : 0 ≤ c) (h1 : c ≤ 1) (w : World) :
    (callFunc 118 #[.int .u64 x, .int .u64 y, .int .u64 c]).run Tafg.prog w = .ok (.value (.tuple #[.int .u64 ((x + y + c) % 18446744073709551616), .int .u64 ((x + y + c) / 18446744073709551616)])) w := by
  rw [run_callFunc_extern Tafg.func118 (by kernel_rfl) (by kernel_rfl) (by kernel_rfl) (e := add64Entry) (by kernel_rfl), run_add64 x y c hx hy h0 h1]; rfl
theorem sub64_run (x y c : Int) (hx : 0 ≤ x) (hx2 : x < 18446744073709551616) (hy : 0 ≤ y) (hy2 : y < 18446744073709551616) (h0 : 0 ≤ c) (h1 : c ≤ 1) (w : World) :
    (callFunc 119 #[.int .u64 x, .int .u64 y, .int .u64 c]).run Tafg.prog w = .ok (.value (.tuple #[.int .u64 ((x - y - c) % 18446744073709551616), .int .u64 (-((x - y - c) / 18446744073709551616))])) w := by
  obtain ⟨X, rfl⟩ := Int.eq_ofNat_of_zero_le hx
  obtain ⟨Y, rfl⟩ := Int.eq_ofNat_of_zero_le hy
  obtain ⟨C, rfl⟩ := Int.eq_ofNat_of_zero_le h0
  rw [run_callFunc_extern Tafg.func119 (by kernel_rfl) (by kernel_rfl) (by kernel_rfl) (e := Go.Proofs.sub64Entry) (by kernel_rfl), Go.Proofs.run_sub64 X Y C (by omega)]
  have e1 : (((X + 18446744073709551616 - Y - C) % 18446744073709551616 : Nat) : Int) = ((X : Int) - Y - C) % 18446744073709551616 := by omega
  have e2 : (((if X < Y + C then 1 else 0 : Nat)) : Int) = -(((X : Int) - Y - C) / 18446744073709551616) := by split <;> omega
  rw [e1, e2]; rfl

theorem accAdd_any (x y c : Int) (hx : 0 ≤ x) (hy : 0 ≤ y) (h0 : 0 ≤ c) (h1 : c ≤ 1) (w : World) :
    Calls Tafg.prog 111 #[.int .u64 x, .int .u64 y, .int .u64 c] w fun e w' => e = .returned (.tuple #[.int .u64 ((x + y + c) % 18446744073709551616), .int .u64 ((x + y + c) / 18446744073709551616)]) ∧ w' = w := by
  have h := add64_run x y c hx hy h0 h1
  go_enter Tafg.func111, Tafg.ntmps111
  go_wp2
  go_ret2
  exact ⟨rfl, rfl⟩
theorem accSub_any (x y c : Int) (hx : 0 ≤ x) (hx2 : x < 18446744073709551616) (hy : 0 ≤ y) (hy2 : y < 18446744073709551616) (h0 : 0 ≤ c) (h1 : c ≤ 1) (w : World) :
    Calls Tafg.prog 113 #[.int .u64 x, .int .u64 y, .int .u64 c] w fun e w' => e = .returned (.tuple #[.int .u64 ((x - y - c) % 18446744073709551616), .int .u64 (-((x - y - c) / 18446744073709551616))]) ∧ w' = w := by
  have h := sub64_run x y c hx hx2 hy hy2 h0 h1
  go_enter Tafg.func113, Tafg.ntmps113
  go_wp2
  go_ret2
  exact ⟨rfl, rfl⟩

/-- 68 words from offset o of block b on, free to be written. -/
def Arr (w : World) (b o : Nat) (f : Nat → Int) : Prop :=
  b < w.heap.size ∧ ∀ i, i < 68 → w.cell? ⟨b, o + i, none⟩ = some (.int .u64 (f i)) ∧ w.frozen? ⟨b, o + i, none⟩ = false
theorem Arr.cell {w : World} {b o : Nat} {f : Nat → Int} (h : Arr w b o f) {i : Nat} (hi : i < 68) : w.cell? ⟨b, o + i, none⟩ = some (.int .u64 (f i)) := (h.2 i hi).1
theorem Arr.free {w : World} {b o : Nat} {f : Nat → Int} (h : Arr w b o f) {i : Nat} (hi : i < 68) : w.frozen? ⟨b, o + i, none⟩ = false := (h.2 i hi).2
theorem Arr.frame {S : List Nat} {w w' : World} {b o : Nat} {f : Nat → Int} (h : Arr w b o f) (hf : Frm S w w') (hn : b ∉ S) : Arr w' b o f :=
  ⟨Nat.lt_of_lt_of_le h.1 hf.size, fun i hi => ⟨by rw [hf.cell (p := ⟨b, o + i, none⟩) h.1 hn]; exact (h.2 i hi).1, by rw [hf.frozen (p := ⟨b, o + i, none⟩) h.1 hn]; exact (h.2 i hi).2⟩⟩
theorem Arr.congr {w : World} {b o : Nat} {f g : Nat → Int} (h : Arr w b o f) (e : ∀ i, i < 68 → f i = g i) : Arr w b o g :=
  ⟨h.1, fun i hi => by rw [← e i hi]; exact h.2 i hi⟩
theorem Arr.drew {w : World} {b o : Nat} {f : Nat → Int} (h : Arr w b o f) : Arr w.drew b o f := h
theorem Arr.drewN {w : World} {b o : Nat} {f : Nat → Int} (h : Arr w b o f) (q : Nat) : Arr (w.drewN q) b o f := h
theorem Arr.alloc {w : World} {b o : Nat} {f : Nat → Int} (h : Arr w b o f) (x : Obj) : Arr (w.alloc x) b o f := h.frame ((Frm.refl [] w).alloc x) (by simp)

def sgnZ (x : Int) : Int := if x < 0 then -1 else if x = 0 then 0 else 1
def InAcc (x : Int) : Prop := -(2 ^ 4351) ≤ x ∧ x < 2 ^ 4351

theorem top_range {x : Int} (h : InAcc x) : -9223372036854775808 ≤ x / 2 ^ (64 * 67) ∧ x / 2 ^ (64 * 67) < 9223372036854775808 := by
  have hM := M_pos 67
  have e : (2 : Int) ^ 4351 = 9223372036854775808 * 2 ^ (64 * 67) := by
    rw [show 4351 = 63 + 64 * 67 from rfl, Int.pow_add]; rfl
  unfold InAcc at h
  rw [e] at h
  generalize (2 : Int) ^ (64 * 67) = M at *
  exact ⟨Int.le_ediv_of_mul_le hM (by omega), Int.ediv_lt_of_lt_mul hM h.2⟩
theorem top_neg {x : Int} (h : InAcc x) : dg x 67 / 9223372036854775808 = if x < 0 then 1 else 0 := by
  have hr := top_range h
  have hM := M_pos 67
  unfold dg
  split
  · rename_i hx
    have := Int.ediv_neg_of_neg_of_pos hx hM
    generalize x / 2 ^ (64 * 67) = q at *
    omega
  · rename_i hx
    have := Int.ediv_nonneg (show 0 ≤ x by omega) (Int.le_of_lt hM)
    generalize x / 2 ^ (64 * 67) = q at *
    omega
theorem low_zero (x : Int) : ∀ k, (∀ j, j < k → dg x j = 0) → x % 2 ^ (64 * k) = 0
  | 0, _ => by simp
  | k + 1, h => by
    have ih := low_zero x k (fun j hj => h j (by omega))
    have hk : x / 2 ^ (64 * k) % 18446744073709551616 = 0 := h k (by omega)
    rw [M_succ, emod_split x _ (M_pos k), ih, hk]; omega
theorem all_zero {x : Int} (h : InAcc x) (h0 : 0 ≤ x) (hz : ∀ j, j < 68 → dg x j = 0) : x = 0 := by
  have h1 := low_zero x 68 hz
  rw [Int.emod_eq_of_lt h0] at h1
  · exact h1
  · have e : (2 : Int) ^ (64 * 68) = 2 * 2 ^ 4351 := by rw [show 64 * 68 = 4351 + 1 from rfl, Int.pow_succ, Int.mul_comm]
    have := h.2
    rw [e]
    have : (0 : Int) < 2 ^ 4351 := Int.pow_pos (by decide)
    omega
theorem dg_zero (i : Nat) : dg 0 i = 0 := by unfold dg; rw [Int.zero_ediv]; rfl

set_option maxHeartbeats 1000000 in
theorem sign_any (b o : Nat) (x : Int) (w : World) (hx : InAcc x) (h : Arr w b o (dg x)) :
    Calls Tafg.prog 85 #[.pointer (some ⟨b, o, none⟩)] w fun e w' => e = .returned (.int .i8 (sgnZ x)) ∧ w' = w := by
  have ht := top_neg hx
  have c67 := h.cell (i := 67) (by decide)
  have HA := hid h
  have HX := hid hx
  by_cases hn : x < 0
  · rw [if_pos hn] at ht
    have q1 : (dg x 67 / 9223372036854775808 != 0) = true := by rw [ht]; rfl
    have es : sgnZ x = -1 := by unfold sgnZ; rw [if_pos hn]
    rw [es]
    clear h hx hn ht es
    go_enter Tafg.func85, Tafg.ntmps85
    go_wp2
    go_ret
    exact ⟨rfl, rfl⟩
  · rw [if_neg hn] at ht
    have q1 : (dg x 67 / 9223372036854775808 != 0) = false := by rw [ht]; rfl
    have hn2 : 0 ≤ x := by omega
    have HN := hid hn2
    clear h hx ht hn hn2
    go_enter Tafg.func85, Tafg.ntmps85
    go_wp2
    go_loop [2, 3] (fun _ s => ∃ k : Nat, k ≤ 68 ∧ s = .int .i64 (k : Int) ∧ ∀ j, j < k → dg x j = 0) (fun _ s => 68 - (intOf s).toNat)
    case atStart => exact ⟨0, by omega, rfl, fun j hj => by omega⟩
    case round =>
      obtain ⟨k, hk, rfl, hz⟩ := hrel
      have HZ := hid hz
      clear hz
      by_cases hlt : k < 68
      · have c1 := HA.out.cell hlt
        by_cases hd : dg x k = 0
        · have q2 : (dg x k != 0) = false := by rw [hd]; rfl
          have HD := hid hd
          clear hd
          go_wp2
          go_round
          case rel => exact ⟨k + 1, by omega, by go_num, fun j hj => by
            by_cases e : j = k
            · rw [e]; exact HD.out
            · exact HZ.out j (by omega)⟩
          case measure => simp [intOf]; omega
        · have q2 : (dg x k != 0) = true := by simpa using hd
          have hx0 : x ≠ 0 := fun e => hd (by rw [e]; exact dg_zero k)
          have es : sgnZ x = 1 := by unfold sgnZ; rw [if_neg (by have := HN.out; omega), if_neg hx0]
          have HES := hid es
          clear hd hx0 es
          go_wp2
          go_ret
          exact ⟨by rw [HES.out]; rfl, rfl⟩
      · have e : k = 68 := by omega
        subst e
        have hx0 : x = 0 := all_zero HX.out HN.out HZ.out
        have es : sgnZ x = 0 := by unfold sgnZ; rw [if_neg (by have := HN.out; omega), if_pos hx0]
        have HES := hid es
        clear hx0 es
        go_wp2
        go_ret
        exact ⟨by rw [HES.out]; rfl, rfl⟩

/-- What one array's change leaves alone. -/
structure Only (b o : Nat) (w w' : World) : Prop where
  frm : Frm [b] w w'
  size : w'.heap.size = w.heap.size
  rest : ∀ i, i < o ∨ o + 68 ≤ i → w'.cell? ⟨b, i, none⟩ = w.cell? ⟨b, i, none⟩ ∧ w'.frozen? ⟨b, i, none⟩ = w.frozen? ⟨b, i, none⟩
theorem Only.refl (b o : Nat) (w : World) : Only b o w w := ⟨Frm.refl _ _, rfl, fun _ _ => ⟨rfl, rfl⟩⟩
theorem Only.trans {b o : Nat} {u v w : World} (h : Only b o u v) (k : Only b o v w) : Only b o u w :=
  ⟨h.frm.trans k.frm, k.size.trans h.size, fun i hi => ⟨(k.rest i hi).1.trans (h.rest i hi).1, (k.rest i hi).2.trans (h.rest i hi).2⟩⟩
theorem Only.drew {b o : Nat} {u v : World} (h : Only b o u v) : Only b o u v.drew := ⟨h.frm.drew, h.size, h.rest⟩
theorem Only.drewN {b o : Nat} {u v : World} (h : Only b o u v) (n : Nat) : Only b o u (v.drewN n) := ⟨h.frm.drewN n, h.size, h.rest⟩
theorem Only.arr {b o b2 o2 : Nat} {u v : World} {f : Nat → Int} (h : Only b o u v) (ha : Arr u b2 o2 f) (hd : b2 ≠ b ∨ o2 + 68 ≤ o ∨ o + 68 ≤ o2) : Arr v b2 o2 f := by
  by_cases hb : b2 = b
  · subst hb
    exact ⟨by rw [h.size]; exact ha.1, fun i hi => by rw [(h.rest (o2 + i) (by omega)).1, (h.rest (o2 + i) (by omega)).2]; exact ha.2 i hi⟩
  · exact ha.frame h.frm (by simpa using hb)
theorem Only.set {b o i : Nat} {w : World} (v : Value) (hi : i < 68) : Only b o w (w.setCell ⟨b, o + i, none⟩ v) :=
  ⟨(Frm.refl _ _).setCell (.inl (by simp)) v, by simp, fun j hj => ⟨World.cell?_setCell_other _ _ _ _ (by intro e; injection e with e1 e2; omega), by simp⟩⟩
theorem Arr.set {w : World} {b o i : Nat} {f : Nat → Int} (h : Arr w b o f) (hi : i < 68) (v : Int) : Arr (w.setCell ⟨b, o + i, none⟩ (.int .u64 v)) b o (upd f i v) := by
  refine ⟨by simpa using h.1, fun j hj => ?_⟩
  by_cases e : j = i
  · subst e
    rw [upd_same]
    exact ⟨World.cell?_setCell_same _ _ _ (h.cell hi), by simpa using h.free hi⟩
  · rw [upd_ne _ _ _ _ e]
    exact ⟨by rw [World.cell?_setCell_other _ _ _ _ (by intro h'; injection h' with _ h2; omega)]; exact h.cell hj, by simpa using h.free hj⟩
end Go.Proofs.Ygctaf
