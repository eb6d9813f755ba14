/-
  WALK: Acc.AddFloat, law.accOf
-/
import Derived.Test.YgctafAcc4
import Derived.Test.YgctafAcc5
import Derived.Test.YgctafW4
import Derived.Deep.WholeRow
import Derived.Deep.MidRow
namespace Go.Proofs.Ygctaf
open Go.RowKit Ieee

/-- A double's value times 2^2148. -/
def FZ (x : Nat) : Int := (if (splitF x).1 then -1 else 1) * (((splitF x).2.1 * 2 ^ ((splitF x).2.2.1 + 2148).toNat : Nat) : Int)

theorem FZ_val {x : Nat} (hx : x < 2 ^ 64) (hn : Num x) : (FZ x : Rat) = V x * p2 2148 := by
  unfold FZ
  rcases split_cases x hx with ⟨_, h, _⟩ | ⟨_, h, _⟩ | ⟨h, _, hv, _⟩ | ⟨m, i, h, _, _, _, _, he1, he2, hv⟩
  · exact absurd hn h
  · exact absurd hn h
  · rw [h, hv]
    dsimp only
    rw [Nat.zero_mul, Rat.zero_mul]
    split <;> rfl
  · rw [h, hv]
    dsimp only
    rw [Rat.intCast_mul, Rat.intCast_natCast, Rat.natCast_mul, ← p2_nat, show (((i + 2148).toNat : Nat) : Int) = i + 2148 from by omega, p2_add]
    cases negN x
    · rw [sgn_false, Rat.one_mul]
      show ((1 : Int) : Rat) * _ = _
      rw [show ((1 : Int) : Rat) = 1 from rfl, Rat.one_mul, Rat.mul_assoc]
    · rw [sgn_true]
      show ((-1 : Int) : Rat) * _ = _
      rw [show ((-1 : Int) : Rat) = -1 from rfl]; grind
theorem FZ_range {x : Nat} (hx : x < 2 ^ 64) (E : Nat) (hE : 3119 ≤ E) : (FZ x).natAbs ≤ 2 ^ 53 * 2 ^ E := by
  unfold FZ
  have key : ∀ (s : Bool) (m i : Nat), m ≤ 2 ^ 53 → i ≤ E → ((if s then (-1 : Int) else 1) * ((m * 2 ^ i : Nat) : Int)).natAbs ≤ 2 ^ 53 * 2 ^ E := by
    intro s m i hm hi
    have h1 : m * 2 ^ i ≤ 2 ^ 53 * 2 ^ E := Nat.mul_le_mul hm (Nat.pow_le_pow_right (by decide) hi)
    generalize m * 2 ^ i = a at *
    generalize 2 ^ 53 * 2 ^ E = b at *
    cases s
    · rw [if_neg (by decide), Int.one_mul]; omega
    · rw [if_pos rfl]; omega
  rcases split_cases x hx with ⟨h, _⟩ | ⟨h, _⟩ | ⟨h, _⟩ | ⟨m, i, h, _, _, _, hm, he1, he2, _⟩
  · rw [h]; dsimp only; exact key _ _ _ (by decide) (by omega)
  · rw [h]; dsimp only; exact key _ _ _ (by decide) (by omega)
  · rw [h]; dsimp only; exact key _ _ _ (by decide) (by omega)
  · rw [h]; dsimp only; exact key _ _ _ (by omega) (by omega)

set_option maxHeartbeats 1000000 in
theorem addFloat_any (b o x : Nat) (z : Int) (w : World) (hx : x < 2 ^ 64) (hn : Num x) (h : Arr w b o (dg z)) :
    Calls Tafg.prog 73 #[.pointer (some ⟨b, o, none⟩), .float .f64 x] w fun e w' => e = .returned (.bool true) ∧ Arr w' b o (dg (z + FZ x)) ∧ Only b o w w' := by
  have hsp := split_any x hx
  have hcs := split_cases x hx
  have hF : FZ x = (if (splitF x).1 then -1 else 1) * (((splitF x).2.1 * 2 ^ ((splitF x).2.2.1 + 2148).toNat : Nat) : Int) := rfl
  generalize FZ x = F at *
  generalize splitF x = s at *
  obtain ⟨sn, sm, se, sc⟩ := s
  have hb : sc ≤ 1 ∧ sm < 2 ^ 53 ∧ -1074 ≤ se ∧ se ≤ 971 := by
    rcases hcs with ⟨_, h, _⟩ | ⟨_, h, _⟩ | ⟨h, _⟩ | ⟨m, i, h, _, _, h1, h2, h3, h4, _⟩
    · exact absurd hn h
    · exact absurd hn h
    · cases h; decide
    · cases h; omega
  obtain ⟨hc1, hm, he1, he2⟩ := hb
  clear hcs hx hn
  unfold splitV at hsp
  dsimp only at hsp hF
  obtain ⟨i0, hi0⟩ : ∃ i0 : Nat, se + 2148 = (i0 : Int) := ⟨(se + 2148).toNat, by omega⟩
  rw [hi0, Int.toNat_natCast] at hF
  have d1 : decide ((1 : Int) < (sc : Int)) = false := by simp; omega
  have hi1 : i0 ≤ 3119 := by omega
  have hi2 : i0 = 64 * (i0 / 64) + i0 % 64 := by omega
  have hy : ((sm * 2 ^ i0 : Nat) : Int) = (((0 * 2 ^ 64 + sm) * 2 ^ (i0 % 64) * 2 ^ (64 * (i0 / 64)) : Nat) : Int) := by
    rw [Nat.zero_mul, Nat.zero_add, Nat.mul_assoc, ← Nat.pow_add, Nat.add_comm, ← hi2]
  have HA := hid h
  have HF := hid hF
  cases sn
  · have hp := place_pos b o 0 sm (i0 / 64) (i0 % 64) i0 z ((sm * 2 ^ i0 : Nat) : Int) w (by decide) (by omega) (by omega) (by omega) hi2 hy h
    have HP := hid hp
    clear hp hy h hF hi2 he1 he2 hm
    go_enter Tafg.func73, Tafg.ntmps73
    go_wp2_with (first | (go_at_call 82; refine (hsp _).mono ?_; rintro e w' ⟨rfl, rfl⟩))
    refine Calls.mono HP.out ?_
    rintro e w1 ⟨rfl, ha, hon⟩
    go_wp2
    go_ret
    refine ⟨rfl, ?_, hon⟩
    have e : F = ((sm * 2 ^ i0 : Nat) : Int) := by rw [HF.out]; simp
    rw [e]; exact ha
  · have hp := place_neg b o 0 sm (i0 / 64) (i0 % 64) i0 z ((sm * 2 ^ i0 : Nat) : Int) w (by decide) (by omega) (by omega) (by omega) hi2 hy h
    have HP := hid hp
    clear hp hy h hF hi2 he1 he2 hm
    go_enter Tafg.func73, Tafg.ntmps73
    go_wp2_with (first | (go_at_call 82; refine (hsp _).mono ?_; rintro e w' ⟨rfl, rfl⟩))
    refine Calls.mono HP.out ?_
    rintro e w1 ⟨rfl, ha, hon⟩
    go_wp2
    go_ret
    refine ⟨rfl, ?_, hon⟩
    have e : F = -((sm * 2 ^ i0 : Nat) : Int) := by rw [HF.out]; simp
    rw [e, ← Int.sub_eq_add_neg]; exact ha

/-- An accumulator's 68 words, as a value. -/
def digsL (z : Int) : List Value := (List.range 68).map fun i => Value.int .u64 (dg z i)
theorem digsL_len (z : Int) : (digsL z).length = 68 := by unfold digsL; rw [List.length_map, List.length_range]
theorem digsL_get (z : Int) (j : Nat) (v : Value) (h : (digsL z)[j]? = some v) : j < 68 ∧ v = .int .u64 (dg z j) := by
  unfold digsL at h
  rw [List.getElem?_map] at h
  by_cases hj : j < 68
  · rw [List.getElem?_range hj] at h
    cases h; exact ⟨hj, rfl⟩
  · rw [List.getElem?_eq_none (by rw [List.length_range]; omega)] at h; cases h
theorem Arr.range {w : World} {b o : Nat} {z : Int} (h : Arr w b o (dg z)) : w.rangeAt b o (digsL z) := fun j v hv => by
  obtain ⟨hj, rfl⟩ := digsL_get z j v hv
  exact h.cell hj
def Z68 : Array Value := Array.replicate 68 (.int .u64 0)
theorem Tafg.info31 : (Tafg.prog.info? 31).map (fun i => (i.zero, i.size)) = some (some (.agg Z68), 68) := by kernel_rfl
theorem Tafg.size31 : (Tafg.prog.info? 31).map (·.size) = some 68 := (zero_of_info Tafg.info31).2
theorem arr_new (w : World) : Arr (w.alloc (.cells Z68 31)) w.heap.size 0 (dg 0) := by
  refine ⟨by simp, fun i hi => ?_⟩
  rw [Nat.zero_add, dg_zero]
  refine ⟨?_, ?_⟩
  · rw [World.cell?_alloc_at _ _ _ _ rfl]
    simp [Z68, hi]
  · simp
theorem frm_setCells (b : Nat) : ∀ (vs : List Value) (o : Nat) (w : World), Frm [b] w (w.setCells b o vs) ∧ (w.setCells b o vs).heap.size = w.heap.size
  | [], _, w => ⟨Frm.refl _ _, rfl⟩
  | v :: r, o, w => by
    obtain ⟨h1, h2⟩ := frm_setCells b r (o + 1) (w.setCell ⟨b, o, none⟩ v)
    exact ⟨((Frm.refl [b] w).setCell (.inl (by simp)) v).trans h1, h2.trans (by simp)⟩
theorem Arr.there {w : World} {b o : Nat} {f : Nat → Int} (h : Arr w b o f) : w.there b o 68 := fun j hj => ⟨by rw [h.cell hj]; rfl, h.free hj⟩
theorem Arr.there2 {w : World} {b o : Nat} {f : Nat → Int} (h : Arr w b o f) (z : Int) : w.there b o (digsL z).toArray.size := by
  rw [List.size_toArray, digsL_len]; exact h.there
theorem arr_setCells {w : World} {b o : Nat} {f : Nat → Int} (h : Arr w b o f) (z : Int) : Arr (w.setCells b o (digsL z)) b o (dg z) := by
  have hr := World.rangeAt_setCells_same w b o (digsL z) (by rw [digsL_len]; exact h.there)
  refine ⟨by rw [(frm_setCells b _ o w).2]; exact h.1, fun i hi => ⟨hr i _ ?_, by rw [World.frozen?_setCells]; exact h.free hi⟩⟩
  unfold digsL
  rw [List.getElem?_map, List.getElem?_range hi]; rfl
theorem only_setCells (w : World) (b o : Nat) (z : Int) : Only b o w (w.setCells b o (digsL z)) :=
  ⟨(frm_setCells b _ o w).1, (frm_setCells b _ o w).2, fun i hi => ⟨World.cell?_setCells_out b _ o w _ (fun _ _ => by rw [digsL_len]; exact hi), World.frozen?_setCells _ _ _ _ _⟩⟩
theorem digsL_one (z : Int) : (digsL z).toArray.all (·.oneCell') = true := all_oneCell_toArray fun v hv => by
  unfold digsL at hv
  obtain ⟨i, _, rfl⟩ := List.mem_map.1 hv
  rfl
theorem size31L (z : Int) : (Tafg.prog.info? 31).map (·.size) = some (digsL z).length := by rw [digsL_len]; exact Tafg.size31
theorem size31A (z : Int) : (Tafg.prog.info? 31).map (·.size) = some (digsL z).toArray.size := by rw [List.size_toArray]; exact size31L z
theorem results_cell_one {fn : Func} {p : Tmp} {ty : TypeId} {P : Program} (h : fn.results = #[.cell p ty]) (tmps : Array Value) (w : World) (a : Addr) (v : Value)
    (hp : tmps.getD p undef = .pointer (some a)) (hl : (loadVar ty a).run P w = .ok v w) : (results fn tmps).run P w = .ok v w := by
  have hp' : tmps[p]?.getD undef = .pointer (some a) := by simpa using hp
  simp [results, h, hp', asAddr, hl]

set_option maxRecDepth 20000 in
set_option maxHeartbeats 1000000 in
theorem accOf_any (x : Nat) (w : World) (hx : x < 2 ^ 64) (hn : Num x) :
    Calls Tafg.prog 30 #[.float .f64 x] w fun e w' => e = .returned (.agg (digsL (FZ x)).toArray) ∧ Frm [] w w' := by
  have hz := (zero_of_info Tafg.info31).1
  go_enter Tafg.func30, Tafg.ntmps30
  go_wp2_with fail
  have ha0 : Arr ((w.alloc (.cells Z68 31)).alloc (.cells Z68 31)) (w.heap.size + 1) 0 (dg 0) := by
    have := arr_new (w.alloc (.cells Z68 31))
    rw [show (w.alloc (.cells Z68 31)).heap.size = w.heap.size + 1 from by simp] at this
    exact this
  have hr0 : Arr ((w.alloc (.cells Z68 31)).alloc (.cells Z68 31)) w.heap.size 0 (dg 0) := (arr_new w).alloc _
  refine (addFloat_any (w.heap.size + 1) 0 x 0 _ hx hn ha0).mono ?_
  rintro e w1 ⟨rfl, ha1, hon1⟩
  rw [Int.zero_add] at ha1
  have hr1 := hon1.arr hr0 (.inl (by omega))
  have hf1 : Frm [] w w1 := (((Frm.refl [] w).alloc _).alloc _).seq hon1.frm (by simp) (by simp)
  dsimp only
  iterate 6 go_step
  refine wpList_load_mid rfl 31 _ rfl (w.heap.size + 1) 0 rfl (digsL (FZ x)) _ ha1.range Tafg.underlying31 rfl (size31L _) ?_
  refine wpList_store_mid rfl 31 _ _ rfl w.heap.size 0 (digsL (FZ x)).toArray rfl rfl (hr1.there2 _) (size31A _) (digsL_one _) ?_
  have hr2 := arr_setCells hr1 (FZ x)
  have hf2 : Frm [] w (w1.setCells w.heap.size 0 (digsL (FZ x))) := hf1.seq (frm_setCells w.heap.size (digsL (FZ x)) 0 w1).1 (by simp) (by simp)
  iterate 4 go_step
  exact bodyPost_ret (results_cell_one rfl _ _ ⟨w.heap.size, 0, none⟩ _ rfl (run_loadVar_mid _ _ 0 31 (digsL (FZ x)) _ hr2.range Tafg.underlying31 rfl (size31L _))) rfl ⟨rfl, hf2⟩
end Go.Proofs.Ygctaf
