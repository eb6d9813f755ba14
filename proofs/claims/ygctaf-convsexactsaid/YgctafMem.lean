/-
  MEMORY: frames, rows of one-cell values as functions of the index.
-/
import Derived.Test.YgctafRows
import Derived.WalkKit
import Derived.WalkSpells
import Derived.WalkLawsBesides
import Derived.Deep.Draws
namespace Go.Proofs.Ygctaf
open Go.RowKit

/-- w' is w with new blocks, and with writes to the blocks of S alone. -/
structure Frm (S : List Nat) (w w' : World) : Prop where
  os : w'.os = w.os
  tape : w'.tape = w.tape
  output : w'.output = w.output
  size : w.heap.size ≤ w'.heap.size
  block : ∀ k, k < w.heap.size → k ∉ S → w'.heap[k]? = w.heap[k]?

theorem Frm.refl (S : List Nat) (w : World) : Frm S w w := ⟨rfl, rfl, rfl, Nat.le_refl _, fun _ _ _ => rfl⟩
theorem Frm.trans {S : List Nat} {a b c : World} (h : Frm S a b) (k : Frm S b c) : Frm S a c :=
  ⟨k.os.trans h.os, k.tape.trans h.tape, k.output.trans h.output, Nat.le_trans h.size k.size,
    fun i hi hn => (k.block i (Nat.lt_of_lt_of_le hi h.size) hn).trans (h.block i hi hn)⟩
theorem Frm.weaken {S T : List Nat} {a b : World} (h : Frm S a b) (hs : ∀ k, k ∈ S → k < a.heap.size → k ∈ T) : Frm T a b :=
  ⟨h.os, h.tape, h.output, h.size, fun i hi hn => h.block i hi (fun hm => hn (hs i hm hi))⟩
/-- Two steps, each with its own blocks. -/
theorem Frm.seq {S T U : List Nat} {a b c : World} (h : Frm S a b) (k : Frm T b c) (hs : ∀ i, i ∈ S → i < a.heap.size → i ∈ U) (ht : ∀ i, i ∈ T → i < a.heap.size → i ∈ U) : Frm U a c :=
  ⟨k.os.trans h.os, k.tape.trans h.tape, k.output.trans h.output, Nat.le_trans h.size k.size,
    fun i hi hn => (k.block i (Nat.lt_of_lt_of_le hi h.size) (fun hm => hn (ht i hm hi))).trans (h.block i hi (fun hm => hn (hs i hm hi)))⟩
theorem Frm.drew {S : List Nat} {a w : World} (h : Frm S a w) : Frm S a w.drew := ⟨h.os, h.tape, h.output, h.size, h.block⟩
theorem Frm.drewN {S : List Nat} {a w : World} (h : Frm S a w) (n : Nat) : Frm S a (w.drewN n) := ⟨h.os, h.tape, h.output, h.size, h.block⟩
theorem Frm.alloc {S : List Nat} {a w : World} (h : Frm S a w) (o : Obj) : Frm S a (w.alloc o) :=
  h.trans ⟨rfl, rfl, rfl, by simp, fun k hk _ => Below.heap_alloc _ _ _ hk⟩
theorem Frm.setCell {S : List Nat} {a w : World} (h : Frm S a w) {p : Addr} (hp : p.block ∈ S ∨ a.heap.size ≤ p.block) (u : Value) : Frm S a (w.setCell p u) :=
  ⟨h.os, h.tape, h.output, by simpa using h.size, fun k hk hn => by
    rw [Below.heap_setCell _ _ _ _ (by rintro rfl; rcases hp with hp | hp; exact hn hp; omega)]
    exact h.block k hk hn⟩
theorem Frm.cell {S : List Nat} {w w' : World} (h : Frm S w w') {p : Addr} (hp : p.block < w.heap.size) (hn : p.block ∉ S) : w'.cell? p = w.cell? p := World.cell?_of_block (w := w) (h.block p.block hp hn)
theorem Frm.frozen {S : List Nat} {w w' : World} (h : Frm S w w') {p : Addr} (hp : p.block < w.heap.size) (hn : p.block ∉ S) : w'.frozen? p = w.frozen? p := World.frozen?_of_block (w := w) (h.block p.block hp hn)
theorem Frm.below {w w' : World} (h : Frm [] w w') : Below w.heap.size w w' := ⟨h.os, h.tape, h.output, h.size, fun k hk => h.block k hk (by simp)⟩

/-- A fact kept from the walk. -/
theorem hid {p : Prop} (h : p) : Hid p := h

/-! ### Rows -/
/-- Turn a function at one place. -/
def upd {α : Type} (f : Nat → α) (i : Nat) (v : α) : Nat → α := fun j => if j = i then v else f j
theorem upd_same {α : Type} (f : Nat → α) (i : Nat) (v : α) : upd f i v i = v := by simp [upd]
theorem upd_ne {α : Type} (f : Nat → α) (i j : Nat) (v : α) (h : j ≠ i) : upd f i v j = f j := by simp [upd, h]

/-- Block b holds, from offset off on, the n values f 0, f 1 ..: each may be read. -/
def Rd {α : Type} (enc : α → Value) (w : World) (b off n : Nat) (f : Nat → α) : Prop :=
  ∀ i, i < n → w.cell? ⟨b, off + i, none⟩ = some (enc (f i))
/-- Block b is there and holds, from its head on, the n values f 0, f 1 ..: each may be read and written. -/
def Own {α : Type} (enc : α → Value) (w : World) (b n : Nat) (f : Nat → α) : Prop :=
  b < w.heap.size ∧ ∀ i, i < n → w.cell? ⟨b, i, none⟩ = some (enc (f i)) ∧ w.frozen? ⟨b, i, none⟩ = false

section
variable {α : Type} {enc : α → Value}
theorem Own.cell {w : World} {b n : Nat} {f : Nat → α} (h : Own enc w b n f) {i : Nat} (hi : i < n) : w.cell? ⟨b, i, none⟩ = some (enc (f i)) := (h.2 i hi).1
theorem Own.free {w : World} {b n : Nat} {f : Nat → α} (h : Own enc w b n f) {i : Nat} (hi : i < n) : w.frozen? ⟨b, i, none⟩ = false := (h.2 i hi).2
theorem Own.get {w : World} {b n : Nat} {f : Nat → α} (h : Own enc w b n f) {i : Nat} (hi : i < n) : ∃ old, w.cell? ⟨b, i, none⟩ = some old ∧ w.frozen? ⟨b, i, none⟩ = false := ⟨_, h.2 i hi⟩
theorem Own.frame {S : List Nat} {w w' : World} {b n : Nat} {f : Nat → α} (h : Own enc w b n f) (hf : Frm S w w') (hn : b ∉ S) : Own enc w' b n f :=
  ⟨Nat.lt_of_lt_of_le h.1 hf.size, fun i hi => ⟨by rw [hf.cell (p := ⟨b, i, none⟩) h.1 hn]; exact (h.2 i hi).1, by rw [hf.frozen (p := ⟨b, i, none⟩) h.1 hn]; exact (h.2 i hi).2⟩⟩
theorem Own.drew {w : World} {b n : Nat} {f : Nat → α} (h : Own enc w b n f) : Own enc w.drew b n f := h
theorem Own.drewN {w : World} {b n : Nat} {f : Nat → α} (h : Own enc w b n f) (q : Nat) : Own enc (w.drewN q) b n f := h
theorem Own.alloc {w : World} {b n : Nat} {f : Nat → α} (h : Own enc w b n f) (o : Obj) : Own enc (w.alloc o) b n f :=
  h.frame ((Frm.refl [] w).alloc o) (by simp)
theorem Own.congr {w : World} {b n : Nat} {f g : Nat → α} (h : Own enc w b n f) (e : ∀ i, i < n → f i = g i) : Own enc w b n g :=
  ⟨h.1, fun i hi => by rw [← e i hi]; exact h.2 i hi⟩
theorem Own.less {w : World} {b n m : Nat} {f : Nat → α} (h : Own enc w b n f) (e : m ≤ n) : Own enc w b m f :=
  ⟨h.1, fun i hi => h.2 i (by omega)⟩
theorem Own.setCell {w : World} {b n : Nat} {f : Nat → α} (h : Own enc w b n f) {i : Nat} (hi : i < n) (v : α) : Own enc (w.setCell ⟨b, i, none⟩ (enc v)) b n (upd f i v) := by
  refine ⟨by simpa using h.1, fun j hj => ?_⟩
  by_cases e : j = i
  · subst e
    rw [upd_same]
    exact ⟨World.cell?_setCell_same _ _ _ (h.cell hi), by simpa using h.free hj⟩
  · rw [upd_ne _ _ _ _ e]
    refine ⟨?_, by simpa using h.free hj⟩
    rw [World.cell?_setCell_other _ _ _ _ (by intro h'; injection h' with _ h2; omega)]
    exact h.cell hj
/-- One more place is filled. -/
theorem Own.step {w : World} {b n : Nat} {f g : Nat → α} {k : Nat} (h : Own enc w b n (fun j => if j < k then f j else g j)) (hk : k < n) {v : Value} (hv : v = enc (f k)) :
    Own enc (w.setCell ⟨b, k, none⟩ v) b n (fun j => if j < k + 1 then f j else g j) := by
  subst hv
  refine (h.setCell hk (f k)).congr fun i _ => ?_
  by_cases e : i = k
  · subst e; simp [upd]
  · rw [upd_ne _ _ _ _ e]
    have : (i < k + 1) = (i < k) := by rw [eq_iff_iff]; omega
    simp only [this]
theorem Own.full {w : World} {b n k : Nat} {f g : Nat → α} (h : Own enc w b n (fun j => if j < k then f j else g j)) (hk : n ≤ k) : Own enc w b n f :=
  h.congr fun i hi => by rw [if_pos (by omega)]
theorem Own.setCell_other {w : World} {b n c i : Nat} {f : Nat → α} (h : Own enc w b n f) (hc : c ≠ b) (v : Value) : Own enc (w.setCell ⟨c, i, none⟩ v) b n f :=
  h.frame (S := [c]) ((Frm.refl [c] w).setCell (by simp) v) (by simp; omega)
theorem Own.rd {w : World} {b n : Nat} {f : Nat → α} (h : Own enc w b n f) : Rd enc w b 0 n f := fun i hi => by rw [Nat.zero_add]; exact h.cell hi
theorem Rd.frame {S : List Nat} {w w' : World} {b off n : Nat} {f : Nat → α} (h : Rd enc w b off n f) (hf : Frm S w w') (hb : b < w.heap.size) (hn : b ∉ S) : Rd enc w' b off n f :=
  fun i hi => by rw [hf.cell (p := ⟨b, off + i, none⟩) hb hn]; exact h i hi

/-- What 'make' lays. -/
theorem Own.made {w : World} {n : Nat} {e : TypeId} {z : α} : Own enc (w.alloc (.cells (madeCells #[enc z] n) e)) w.heap.size n (fun _ => z) := by
  refine ⟨by simp, fun i hi => ⟨?_, ?_⟩⟩
  · rw [World.cell?_alloc_at _ _ _ _ rfl]
    simp [madeCells, hi, Nat.mod_one]
  · exact World.frozen?_alloc_at _ _ _ _ rfl
end

/-- A callee that leaves the world as it was. -/
theorem same_mono {P : Program} {f : FuncId} {args : Array Value} {w : World} {v : Value} {K : Ending → World → Prop} (h : Calls P f args w fun e w' => e = .returned v ∧ w' = w) (hk : K (.returned v) w) : Calls P f args w K :=
  h.mono fun e w' ⟨he, hw⟩ => by subst he; subst hw; exact hk

/-! ### The kinds of values -/
def CV (z : Nat × Nat) : Value := .complex .f64 z.1 z.2
def FV (x : Nat) : Value := .float .f64 x
theorem CV_eq (z : Nat × Nat) : CV z = .complex .f64 z.1 z.2 := rfl
theorem FV_eq (x : Nat) : FV x = .float .f64 x := rfl

/-- The store of a complex number, of a float (the kit has these laws for other kinds). -/
theorem run_store_complex {P : Program} (w : World) (a : Addr) (m : Mode) (k : FloatKind) (x y : Nat) : (store a (.complex k x y) m).run P w = stored P w a (.complex k x y) m := run_store P w a _ m rfl
theorem run_store_float {P : Program} (w : World) (a : Addr) (m : Mode) (k : FloatKind) (x : Nat) : (store a (.float k x) m).run P w = stored P w a (.float k x) m := run_store P w a _ m rfl

theorem Own.madeC {w : World} {n : Nat} {e : TypeId} : Own CV (w.alloc (.cells (madeCells #[Value.complex .f64 0 0] n) e)) w.heap.size n (fun _ => (0, 0)) := Own.made (enc := CV) (z := (0, 0))
theorem Own.madeF {w : World} {n : Nat} {e : TypeId} : Own FV (w.alloc (.cells (madeCells #[Value.float .f64 0] n) e)) w.heap.size n (fun _ => 0) := Own.made (enc := FV) (z := 0)

theorem Tafg.own : ownKnob Tafg.prog.godebug = none := by kernel_rfl
theorem Tafg.info42 : (Tafg.prog.info? 42).map (fun i => (i.zero, i.size, i.bytes)) = some (some (.complex .f64 0 0), 1, 16) := by kernel_rfl
theorem Tafg.info41 : (Tafg.prog.info? 41).map (fun i => (i.zero, i.size, i.bytes)) = some (some (.float .f64 0), 1, 8) := by kernel_rfl
theorem Tafg.info2 : (Tafg.prog.info? 2).map (fun i => (i.zero, i.size, i.bytes)) = some (some (.int .i64 0), 1, 8) := by kernel_rfl

/-- make([]complex128, n) -/
theorem make_c (n : Nat) (h : n * 16 ≤ 281474976710656) (w : World) :
    (Instr.makeSlice 23 (.int .i64 (n : Int)) (.int .i64 (n : Int))).run Tafg.prog w = .ok (.slice (some ⟨w.heap.size, 0, none⟩) n n) (w.alloc (.cells (madeCells #[Value.complex .f64 0 0] n) 42)) := by
  obtain ⟨i0, hi, hz0, hz1, hz2⟩ := info_parts Tafg.info42
  have := run_make (P := Tafg.prog) w 23 42 i0 _ Tafg.underlying23 hi hz0 .i64 .i64 n n (by omega) (by omega) (by rw [hz2]; omega) (by omega)
  rw [this, hz1, Nat.mul_one]
  rfl
theorem make_f (n : Nat) (h : n * 8 ≤ 281474976710656) (w : World) :
    (Instr.makeSlice 67 (.int .i64 (n : Int)) (.int .i64 (n : Int))).run Tafg.prog w = .ok (.slice (some ⟨w.heap.size, 0, none⟩) n n) (w.alloc (.cells (madeCells #[Value.float .f64 0] n) 41)) := by
  obtain ⟨i0, hi, hz0, hz1, hz2⟩ := info_parts Tafg.info41
  have := run_make (P := Tafg.prog) w 67 41 i0 _ Tafg.underlying67 hi hz0 .i64 .i64 n n (by omega) (by omega) (by rw [hz2]; omega) (by omega)
  rw [this, hz1, Nat.mul_one]
  rfl
theorem make_i (n : Nat) (h : n * 8 ≤ 281474976710656) (w : World) :
    (Instr.makeSlice 58 (.int .i64 (n : Int)) (.int .i64 (n : Int))).run Tafg.prog w = .ok (.slice (some ⟨w.heap.size, 0, none⟩) n n) (w.alloc (.cells (madeCells #[Value.int .i64 0] n) 2)) := by
  obtain ⟨i0, hi, hz0, hz1, hz2⟩ := info_parts Tafg.info2
  have := run_make (P := Tafg.prog) w 58 2 i0 _ Tafg.underlying58 hi hz0 .i64 .i64 n n (by omega) (by omega) (by rw [hz2]; omega) (by omega)
  rw [this, hz1, Nat.mul_one]
  rfl

end Go.Proofs.Ygctaf
