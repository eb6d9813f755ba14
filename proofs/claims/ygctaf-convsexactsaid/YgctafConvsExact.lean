/-
  law.ConvsExact
-/
import Derived.Test.YgctafW41
import Derived.Test.YgctafW42
import Derived.Test.YgctafW43
namespace Go.Proofs.Ygctaf
open Go.RowKit Ieee
attribute [local go_sem] run_store_complex run_store_float CV_eq FV_eq

/-- What all four give. -/
def CvGood (f : Nat) (args : Array Value) (w : World) (m : Nat) (c : Nat → Int) : Prop :=
  Calls Tafg.prog f args w fun e w' => ∃ C, e = .returned (.tuple #[.slice (some ⟨C, 0, none⟩) m m, .bool true]) ∧ w.heap.size ≤ C ∧ Own (Value.int .i64) w' C m c ∧ Frm [] w w'

section no
variable (a b : Option Addr) (la acap lb bcap : Nat) (s : Bool) (h : ∀ w, Calls Tafg.prog 105 #[.slice a la acap, .slice b lb bcap] w fun e w' => e = .returned (.tuple #[.bool false, .bool s]) ∧ w' = w)
include h
theorem convolvex_no (sp : Bool) (w : World) : Calls Tafg.prog 104 #[.slice a la acap, .slice b lb bcap, .bool sp] w fun e w' => e = .returned (.tuple #[.slice none 0 0, .bool s]) ∧ w' = w := by
  go_enter Tafg.func104, Tafg.ntmps104
  go_wp2_with fail
  refine same_mono (h _) ?_
  go_wp2
  go_ret2
  exact ⟨rfl, rfl⟩
theorem conv4_no (w : World) : Calls Tafg.prog 65 #[.slice a la acap, .slice b lb bcap] w fun e w' => e = .returned (.tuple #[.slice none 0 0, .bool s]) ∧ w' = w := by
  go_enter Tafg.func65, Tafg.ntmps65
  go_wp2_with fail
  refine same_mono (convolvex_no a b la acap lb bcap s h false _) ?_
  go_wp2
  go_ret2
  exact ⟨rfl, rfl⟩
theorem convSplit_no (w : World) : Calls Tafg.prog 66 #[.slice a la acap, .slice b lb bcap] w fun e w' => e = .returned (.tuple #[.slice none 0 0, .bool s]) ∧ w' = w := by
  go_enter Tafg.func66, Tafg.ntmps66
  go_wp2_with fail
  refine same_mono (convolvex_no a b la acap lb bcap s h true _) ?_
  go_wp2
  go_ret2
  exact ⟨rfl, rfl⟩
theorem convReal_no (w : World) : Calls Tafg.prog 67 #[.slice a la acap, .slice b lb bcap] w fun e w' => e = .returned (.tuple #[.slice none 0 0, .bool s]) ∧ w' = w := by
  go_enter Tafg.func67, Tafg.ntmps67
  go_wp2_with fail
  refine same_mono (h _) ?_
  go_wp2
  go_ret2
  exact ⟨rfl, rfl⟩
theorem convAny_no (w : World) : Calls Tafg.prog 68 #[.slice a la acap, .slice b lb bcap] w fun e w' => e = .returned (.tuple #[.slice none 0 0, .bool s]) ∧ w' = w := by
  go_enter Tafg.func68, Tafg.ntmps68
  go_wp2_with fail
  refine same_mono (h _) ?_
  go_wp2
  go_ret2
  exact ⟨rfl, rfl⟩
end no

theorem conv4_any {x y : Value} {w : World} {m : Nat} {c : Nat → Int} (h : CvGood 104 #[x, y, .bool false] w m c) : CvGood 65 #[x, y] w m c := by
  have H := hid h
  clear h
  unfold CvGood
  go_enter Tafg.func65, Tafg.ntmps65
  go_wp2_with fail
  refine Calls.mono H.out ?_
  rintro e w1 ⟨C, rfl, h1, h2, h3⟩
  go_wp2
  go_ret2
  exact ⟨C, rfl, h1, h2, h3⟩
theorem convSplit_any {x y : Value} {w : World} {m : Nat} {c : Nat → Int} (h : CvGood 104 #[x, y, .bool true] w m c) : CvGood 66 #[x, y] w m c := by
  have H := hid h
  clear h
  unfold CvGood
  go_enter Tafg.func66, Tafg.ntmps66
  go_wp2_with fail
  refine Calls.mono H.out ?_
  rintro e w1 ⟨C, rfl, h1, h2, h3⟩
  go_wp2
  go_ret2
  exact ⟨C, rfl, h1, h2, h3⟩

set_option maxHeartbeats 1000000 in
theorem convsExact_long (a b : Option Addr) (la acap lb bcap : Nat) (za zb : Nat → Int) (w : World) (h : 512 < la ∨ 512 < lb) (ha : la ≤ 140737488351232) (hb : lb ≤ 140737488351232) (hca : la ≤ acap) (hcb : lb ≤ bcap)
    (hra : InRow .u8 w a la za) (hrb : InRow .u8 w b lb zb) :
    Calls Tafg.prog 14 #[.slice a la acap, .slice b lb bcap] w fun e w' => e = .returned (.bool true) ∧ Frm [] w w' := by
  have h1 := digits_any a la acap za w hra hca ha
  have h2 := digits_any b lb bcap zb w hrb hcb hb
  clear hra hrb
  go_enter Tafg.func14, Tafg.ntmps14
  go_wp2_with fail
  refine h1.mono ?_
  rintro e w1 ⟨a', la', ca', rfl, rfl, hl1, hl2⟩
  go_wp2_with fail
  refine h2.mono ?_
  rintro e w2 ⟨b', lb', cb', rfl, rfl, hl3, hl4⟩
  have hadm := fun w => admitted_long a' b' la' ca' lb' cb' w (by omega)
  go_wp2_with fail
  refine same_mono (conv4_no a' b' la' ca' lb' cb' false hadm _) ?_
  go_wp2_with fail
  refine same_mono (convSplit_no a' b' la' ca' lb' cb' false hadm _) ?_
  go_wp2_with fail
  refine same_mono (convReal_no a' b' la' ca' lb' cb' false hadm _) ?_
  go_wp2_with fail
  refine same_mono (convAny_no a' b' la' ca' lb' cb' false hadm _) ?_
  have hcv := fun w => convolved_long a' b' la' ca' lb' cb' w (by omega) (by omega) (by omega)
  go_wp2_with fail
  refine same_mono (hcv _) ?_
  go_wp2_with fail
  refine same_mono (hcv _) ?_
  go_wp2_with fail
  refine same_mono (hcv _) ?_
  go_wp2_with fail
  refine same_mono (hcv _) ?_
  go_wp2
  go_ret
  exact ⟨rfl, Frm.refl _ _⟩
set_option maxHeartbeats 1000000 in
theorem convsExact_empty (a b : Option Addr) (la acap lb bcap : Nat) (w : World) (h : la = 0 ∨ lb = 0) (ha : la ≤ 512) (hb : lb ≤ 512) :
    Calls Tafg.prog 14 #[.slice a la acap, .slice b lb bcap] w fun e w' => e = .returned (.bool true) ∧ Frm [] w w' := by
  have hadm := fun w => admitted_empty a b la acap lb bcap w h ha hb
  go_enter Tafg.func14, Tafg.ntmps14
  go_wp2_with fail
  refine same_mono (digits_short a la acap _ (by omega)) ?_
  go_wp2_with fail
  refine same_mono (digits_short b lb bcap _ (by omega)) ?_
  go_wp2_with fail
  refine same_mono (conv4_no a b la acap lb bcap true hadm _) ?_
  go_wp2_with fail
  refine same_mono (convSplit_no a b la acap lb bcap true hadm _) ?_
  go_wp2_with fail
  refine same_mono (convReal_no a b la acap lb bcap true hadm _) ?_
  go_wp2_with fail
  refine same_mono (convAny_no a b la acap lb bcap true hadm _) ?_
  go_wp2_with fail
  refine (convolved_empty a b la acap lb bcap _ h ha hb).mono ?_
  rintro e w1 ⟨rfl, f1⟩
  go_wp2_with fail
  refine (convolved_empty a b la acap lb bcap _ h ha hb).mono ?_
  rintro e w2 ⟨rfl, f2⟩
  go_wp2_with fail
  refine (convolved_empty a b la acap lb bcap _ h ha hb).mono ?_
  rintro e w3 ⟨rfl, f3⟩
  go_wp2_with fail
  refine (convolved_empty a b la acap lb bcap _ h ha hb).mono ?_
  rintro e w4 ⟨rfl, f4⟩
  have f5 := ((f1.trans f2).trans f3).trans f4
  clear f1 f2 f3 f4
  go_wp2
  go_ret
  exact ⟨rfl, f5⟩
set_option maxHeartbeats 1000000 in
theorem convsExact_good (ab aoff la acap bb boff lb bcap q : Nat) (za zb : Nat → Int) (w : World) (ha1 : 1 ≤ la) (ha2 : la ≤ 512) (hb1 : 1 ≤ lb) (hb2 : lb ≤ 512) (hq : q ≤ 9) (hlv : IsLvl (la + lb - 1) q)
    (hab : ab < w.heap.size) (hbb : bb < w.heap.size) (hra : Rd (Value.int .u8) w ab aoff la za) (hrb : Rd (Value.int .u8) w bb boff lb zb)
    (va : ∀ i, i < la → 0 ≤ za i ∧ za i ≤ 255) (vb : ∀ i, i < lb → 0 ≤ zb i ∧ zb i ≤ 255) (m : Nat) (hm : m + 1 = la + lb) :
    Calls Tafg.prog 14 #[.slice (some ⟨ab, aoff, none⟩) la acap, .slice (some ⟨bb, boff, none⟩) lb bcap] w fun e w' => e = .returned (.bool true) ∧ Frm [] w w' := by
  have H4 := hid (fun (w1 : World) (f1 : Frm [] w w1) => conv4_any (convolvex_any false ab aoff la acap bb boff lb bcap q (2 ^ (q + 1)) za zb w1 ha1 ha2 hb1 hb2 hq hlv rfl (by have := f1.size; omega) (by have := f1.size; omega) (hra.frame f1 hab (by simp)) (hrb.frame f1 hbb (by simp)) va vb m hm))
  have HS := hid (fun (w1 : World) (f1 : Frm [] w w1) => convSplit_any (convolvex_any true ab aoff la acap bb boff lb bcap q (2 ^ (q + 1)) za zb w1 ha1 ha2 hb1 hb2 hq hlv rfl (by have := f1.size; omega) (by have := f1.size; omega) (hra.frame f1 hab (by simp)) (hrb.frame f1 hbb (by simp)) va vb m hm))
  have HR := hid (fun (w1 : World) (f1 : Frm [] w w1) => convolveReal_any ab aoff la acap bb boff lb bcap q (2 ^ (q + 1)) za zb w1 ha1 ha2 hb1 hb2 hq hlv rfl (by have := f1.size; omega) (by have := f1.size; omega) (hra.frame f1 hab (by simp)) (hrb.frame f1 hbb (by simp)) va vb m hm)
  have HA := hid (fun (w1 : World) (f1 : Frm [] w w1) => convolveAny_any ab aoff la acap bb boff lb bcap za zb w1 ha1 ha2 hb1 hb2 (by have := f1.size; omega) (by have := f1.size; omega) (hra.frame f1 hab (by simp)) (hrb.frame f1 hbb (by simp)) va vb m hm)
  have HC := hid (fun (w1 : World) (f1 : Frm [] w w1) (C : Nat) (hC : Own (Value.int .i64) w1 C m (convZ za zb lb la)) => convolved_good ab aoff la acap bb boff lb bcap m C za zb w1 ha1 ha2 hb1 hb2 hm (by have := f1.size; omega) (by have := f1.size; omega) (hra.frame f1 hab (by simp)) (hrb.frame f1 hbb (by simp)) va vb hC)
  clear hlv hra hrb va vb
  go_enter Tafg.func14, Tafg.ntmps14
  go_wp2_with fail
  refine same_mono (digits_short _ la acap _ (by omega)) ?_
  go_wp2_with fail
  refine same_mono (digits_short _ lb bcap _ (by omega)) ?_
  go_wp2_with fail
  refine Calls.mono (H4.out _ (Frm.refl _ _)) ?_
  rintro e w1 ⟨C1, rfl, g1, o1, f1⟩
  go_wp2_with fail
  refine Calls.mono (HS.out _ f1) ?_
  rintro e w2 ⟨C2, rfl, g2, o2, f2⟩
  have o1 := o1.frame f2 (by simp)
  have f2 := f1.trans f2
  go_wp2_with fail
  refine Calls.mono (HR.out _ f2) ?_
  rintro e w3 ⟨C3, rfl, g3, o3, f3⟩
  have o1 := o1.frame f3 (by simp)
  have o2 := o2.frame f3 (by simp)
  have f3 := f2.trans f3
  go_wp2_with fail
  refine Calls.mono (HA.out _ f3) ?_
  rintro e w4 ⟨C4, rfl, g4, o4, f4⟩
  have o1 := o1.frame f4 (by simp)
  have o2 := o2.frame f4 (by simp)
  have o3 := o3.frame f4 (by simp)
  have f4 := f3.trans f4
  go_wp2_with fail
  refine Calls.mono (HC.out _ f4 C1 o1) ?_
  rintro e w5 ⟨rfl, f5⟩
  have o2 := o2.frame f5 (by simp)
  have o3 := o3.frame f5 (by simp)
  have o4 := o4.frame f5 (by simp)
  have f5 := f4.trans f5
  go_wp2_with fail
  refine Calls.mono (HC.out _ f5 C2 o2) ?_
  rintro e w6 ⟨rfl, f6⟩
  have o3 := o3.frame f6 (by simp)
  have o4 := o4.frame f6 (by simp)
  have f6 := f5.trans f6
  go_wp2_with fail
  refine Calls.mono (HC.out _ f6 C3 o3) ?_
  rintro e w7 ⟨rfl, f7⟩
  have o4 := o4.frame f7 (by simp)
  have f7 := f6.trans f7
  go_wp2_with fail
  refine Calls.mono (HC.out _ f7 C4 o4) ?_
  rintro e w8 ⟨rfl, f8⟩
  have f9 := hid (f7.trans f8)
  clear f8 f7 f6 f5 f4 f3 f2 f1 o1 o2 o3 o4 H4 HS HR HA HC
  go_wp2
  go_ret
  exact ⟨rfl, f9.out⟩

theorem convsExact_any (a b : Option Addr) (la acap lb bcap : Nat) (za zb : Nat → Int) (w : World) (ha : la ≤ 140737488351232) (hb : lb ≤ 140737488351232) (hca : la ≤ acap) (hcb : lb ≤ bcap)
    (hra : InRow .u8 w a la za) (hrb : InRow .u8 w b lb zb) (va : ∀ i, i < la → 0 ≤ za i ∧ za i ≤ 255) (vb : ∀ i, i < lb → 0 ≤ zb i ∧ zb i ≤ 255) :
    Calls Tafg.prog 14 #[.slice a la acap, .slice b lb bcap] w fun e w' => e = .returned (.bool true) ∧ Frm [] w w' := by
  by_cases h : 512 < la ∨ 512 < lb
  · exact convsExact_long a b la acap lb bcap za zb w h ha hb hca hcb hra hrb
  by_cases h2 : la = 0 ∨ lb = 0
  · exact convsExact_empty a b la acap lb bcap w h2 (by omega) (by omega)
  rcases hra with h0 | ⟨ab, aoff, rfl, hab, hra⟩
  · omega
  rcases hrb with h0 | ⟨bb, boff, rfl, hbb, hrb⟩
  · omega
  obtain ⟨q, hq, hlv⟩ := isLvl_ex (la + lb - 1) 9 (by omega)
  exact convsExact_good ab aoff la acap bb boff lb bcap q za zb w (by omega) (by omega) (by omega) (by omega) hq hlv hab hbb hra hrb va vb (la + lb - 1) (by omega)
end Go.Proofs.Ygctaf
