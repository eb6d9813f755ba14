/-
  law.digits, law.convolved, law.ConvExact
-/
import Derived.Test.YgctafW15
namespace Go.Proofs.Ygctaf
open Ieee Go.RowKit Go.ChangeShapes Go.WideShapes Go.ChangeAt
attribute [local go_sem] run_store_complex run_store_float CV_eq FV_eq

theorem open_cap {H : Type} {enc : TypeId × Value → H} {w : World} {base : Nat} {spare : Nat → Bool} {held : Bool} {t e : TypeId} {k : IntKind} {a : Option Addr} {len cap : Nat} {d : DataW H} {ps : List MemPlace}
    (ht : Tafg.prog.underlying t = some (.slice e)) (he : Tafg.prog.underlying e = some (.int k)) (hc : Tafg.prog.cellsOf e = 1)
    (h : DataW.Trod enc Tafg.prog w base spare held t (.slice a len cap) d ps) : len ≤ cap := by
  obtain ⟨fuel, hf⟩ := h
  rcases open_ints ht he hc hf with ⟨hcs, _⟩ | ⟨x, l, c, zs, hcs, _, hl, hm, hz, hx, hcell, hwz⟩
  · simp [Value.cells] at hcs
    obtain ⟨rfl, rfl, rfl⟩ := hcs
    exact Nat.le_refl _
  · simp [Value.cells] at hcs
    obtain ⟨rfl, rfl, rfl⟩ := hcs
    omega

theorem digits_short (a : Option Addr) (la acap : Nat) (w : World) (h : la ≤ 513) :
    Calls Tafg.prog 42 #[.slice a la acap, .int .i64 513] w fun e w' => e = .returned (.slice a la acap) ∧ w' = w := by
  have d1 : decide ((513 : Int) < (la : Int)) = false := by simp; omega
  go_enter Tafg.func42, Tafg.ntmps42
  go_wp2
  go_ret
  exact ⟨rfl, rfl⟩
theorem digits_long (b off la acap : Nat) (w : World) (h : 513 < la) (hc : la ≤ acap) (hb : la ≤ 140737488351232) :
    Calls Tafg.prog 42 #[.slice (some ⟨b, off, none⟩) la acap, .int .i64 513] w fun e w' => e = .returned (.slice (some ⟨b, off, none⟩) 513 513) ∧ w' = w := by
  have d1 : (513 : Int) < (la : Int) := by omega
  go_enter Tafg.func42, Tafg.ntmps42
  go_wp2
  go_ret
  exact ⟨rfl, rfl⟩

theorem convolve_empty (a b : Option Addr) (la acap lb bcap : Nat) (w : World) (h : la = 0 ∨ lb = 0) (ha : la ≤ 512) (hb : lb ≤ 512) :
    Calls Tafg.prog 39 #[.slice a la acap, .slice b lb bcap] w fun e w' => e = .returned (.tuple #[.slice none 0 0, .bool true]) ∧ w' = w := by
  have d3 : decide ((512 : Int) < (la : Int)) = false := by simp; omega
  have d4 : decide ((512 : Int) < (lb : Int)) = false := by simp; omega
  by_cases g : la = 0
  · subst g
    clear h d3
    go_enter Tafg.func39, Tafg.ntmps39
    go_wp2
    go_ret2
    exact ⟨rfl, rfl⟩
  · have g2 : lb = 0 := by omega
    have d1 : ((la : Int) == 0) = false := by simp; omega
    subst g2
    clear h d4
    go_enter Tafg.func39, Tafg.ntmps39
    go_wp2
    go_ret2
    exact ⟨rfl, rfl⟩
theorem doubleLoop_empty (a b : Option Addr) (la acap lb bcap : Nat) (w : World) (h : la = 0 ∨ lb = 0) (ha : la ≤ 512) (hb : lb ≤ 512) :
    Calls Tafg.prog 88 #[.slice a la acap, .slice b lb bcap] w fun e w' => e = .returned (.slice none 0 0) ∧ w' = w := by
  by_cases g : la = 0
  · subst g
    clear h
    go_enter Tafg.func88, Tafg.ntmps88
    go_wp2
    go_ret
    exact ⟨rfl, rfl⟩
  · have g2 : lb = 0 := by omega
    have d1 : ((la : Int) == 0) = false := by simp; omega
    subst g2
    clear h
    go_enter Tafg.func88, Tafg.ntmps88
    go_wp2
    go_ret
    exact ⟨rfl, rfl⟩

theorem convolved_long (a b : Option Addr) (la acap lb bcap : Nat) (w : World) (h : 512 < la ∨ 512 < lb) (ha : la ≤ 513) (hb : lb ≤ 513) :
    Calls Tafg.prog 43 #[.slice a la acap, .slice b lb bcap, .slice none 0 0, .bool false] w fun e w' => e = .returned (.bool true) ∧ w' = w := by
  have hnil := fun w => Lib.run_eql_slice_nil (P := Tafg.prog) w 58 2 none 0 0 0 0 Tafg.underlying58
  by_cases g : 512 < la
  · have d3 : decide ((512 : Int) < (la : Int)) = true := by simp; omega
    clear h
    go_enter Tafg.func43, Tafg.ntmps43
    go_wp2
    go_ret
    exact ⟨rfl, rfl⟩
  · have d3 : decide ((512 : Int) < (la : Int)) = false := by simp; omega
    have d4 : decide ((512 : Int) < (lb : Int)) = true := by simp; omega
    clear h
    go_enter Tafg.func43, Tafg.ntmps43
    go_wp2
    go_ret
    exact ⟨rfl, rfl⟩
theorem convolved_empty (a b : Option Addr) (la acap lb bcap : Nat) (w : World) (h : la = 0 ∨ lb = 0) (ha : la ≤ 512) (hb : lb ≤ 512) :
    Calls Tafg.prog 43 #[.slice a la acap, .slice b lb bcap, .slice none 0 0, .bool true] w fun e w' => e = .returned (.bool true) ∧ Frm [] w w' := by
  have d3 : decide ((512 : Int) < (la : Int)) = false := by simp; omega
  have d4 : decide ((512 : Int) < (lb : Int)) = false := by simp; omega
  have hd := doubleLoop_empty a b la acap lb bcap w h ha hb
  clear h
  go_enter Tafg.func43, Tafg.ntmps43
  go_wp2_with fail
  refine hd.mono ?_
  rintro e w1 ⟨rfl, rfl⟩
  go_wp2_with fail
  refine (sameInts_nil _).mono ?_
  rintro e w2 ⟨rfl, hfr⟩
  go_wp2
  go_ret
  exact ⟨rfl, hfr⟩
theorem convolved_good (ab aoff la acap bb boff lb bcap m C : Nat) (za zb : Nat → Int) (w : World) (ha1 : 1 ≤ la) (ha2 : la ≤ 512) (hb1 : 1 ≤ lb) (hb2 : lb ≤ 512) (hm : m + 1 = la + lb)
    (hab : ab < w.heap.size) (hbb : bb < w.heap.size) (hra : Rd (Value.int .u8) w ab aoff la za) (hrb : Rd (Value.int .u8) w bb boff lb zb)
    (va : ∀ i, i < la → 0 ≤ za i ∧ za i ≤ 255) (vb : ∀ i, i < lb → 0 ≤ zb i ∧ zb i ≤ 255) (hC : Own (Value.int .i64) w C m (convZ za zb lb la)) :
    Calls Tafg.prog 43 #[.slice (some ⟨ab, aoff, none⟩) la acap, .slice (some ⟨bb, boff, none⟩) lb bcap, .slice (some ⟨C, 0, none⟩) m m, .bool true] w fun e w' => e = .returned (.bool true) ∧ Frm [] w w' := by
  have d3 : decide ((512 : Int) < (la : Int)) = false := by simp; omega
  have d4 : decide ((512 : Int) < (lb : Int)) = false := by simp; omega
  have hd := doubleLoop_any ab aoff la acap bb boff lb bcap m za zb w ha1 ha2 hb1 hb2 hm hab hbb hra hrb va vb
  have HC := hid hC
  clear hra hrb va vb hC
  go_enter Tafg.func43, Tafg.ntmps43
  go_wp2_with fail
  refine hd.mono ?_
  rintro e w1 ⟨rfl, hown, hfr⟩
  have hC1 := HC.out.frame hfr (by simp)
  go_wp2_with fail
  refine (sameInts_any C m w.heap.size m m _ w1 (by omega) hC1 hown).mono ?_
  rintro e w2 ⟨rfl, hfr2⟩
  go_wp2
  go_ret
  exact ⟨rfl, hfr.trans hfr2⟩

theorem digits_any (a : Option Addr) (la acap : Nat) (zs : Nat → Int) (w : World) (hr : InRow .u8 w a la zs) (hc : la ≤ acap) (hb : la ≤ 140737488351232) :
    Calls Tafg.prog 42 #[.slice a la acap, .int .i64 513] w fun e w' => ∃ a' l' c', e = .returned (.slice a' l' c') ∧ w' = w ∧ l' ≤ 513 ∧ (512 < la → 512 < l') := by
  by_cases g : la ≤ 513
  · refine (digits_short a la acap w g).mono ?_
    rintro e w' ⟨rfl, rfl⟩
    exact ⟨_, _, _, rfl, rfl, g, id⟩
  · rcases hr with h0 | ⟨b, off, rfl, _, _⟩
    · omega
    refine (digits_long b off la acap w (by omega) hc hb).mono ?_
    rintro e w' ⟨rfl, rfl⟩
    exact ⟨_, _, _, rfl, rfl, by omega, by omega⟩

theorem convExact_long (a b : Option Addr) (la acap lb bcap : Nat) (za zb : Nat → Int) (w : World) (h : 512 < la ∨ 512 < lb) (ha : la ≤ 140737488351232) (hb : lb ≤ 140737488351232) (hca : la ≤ acap) (hcb : lb ≤ bcap)
    (hra : InRow .u8 w a la za) (hrb : InRow .u8 w b lb zb) :
    Calls Tafg.prog 8 #[.slice a la acap, .slice b lb bcap] w fun e w' => e = .returned (.bool true) ∧ Frm [] w w' := by
  have h1 := digits_any a la acap za w hra hca ha
  have h2 := digits_any b lb bcap zb w hrb hcb hb
  clear hra hrb
  go_enter Tafg.func8, Tafg.ntmps8
  go_wp2_with fail
  refine h1.mono ?_
  rintro e w1 ⟨a', la', ca', rfl, rfl, hl1, hl2⟩
  go_wp2_with fail
  refine h2.mono ?_
  rintro e w2 ⟨b', lb', cb', rfl, rfl, hl3, hl4⟩
  go_wp2_with fail
  refine (convolve_long a' b' la' ca' lb' cb' _ (by omega) (by omega) (by omega)).mono ?_
  rintro e w3 ⟨rfl, rfl⟩
  go_wp2_with fail
  refine (convolved_long a' b' la' ca' lb' cb' _ (by omega) (by omega) (by omega)).mono ?_
  rintro e w4 ⟨rfl, rfl⟩
  go_wp2
  go_ret
  exact ⟨rfl, Frm.refl _ _⟩
theorem convExact_empty (a b : Option Addr) (la acap lb bcap : Nat) (w : World) (h : la = 0 ∨ lb = 0) (ha : la ≤ 512) (hb : lb ≤ 512) :
    Calls Tafg.prog 8 #[.slice a la acap, .slice b lb bcap] w fun e w' => e = .returned (.bool true) ∧ Frm [] w w' := by
  go_enter Tafg.func8, Tafg.ntmps8
  go_wp2_with fail
  refine (digits_short a la acap w (by omega)).mono ?_
  rintro e w1 ⟨rfl, rfl⟩
  go_wp2_with fail
  refine (digits_short b lb bcap _ (by omega)).mono ?_
  rintro e w2 ⟨rfl, rfl⟩
  go_wp2_with fail
  refine (convolve_empty a b la acap lb bcap _ h ha hb).mono ?_
  rintro e w3 ⟨rfl, rfl⟩
  go_wp2_with fail
  refine (convolved_empty a b la acap lb bcap _ h ha hb).mono ?_
  rintro e w4 ⟨rfl, hfr⟩
  go_wp2
  go_ret
  exact ⟨rfl, hfr⟩
theorem convExact_good (ab aoff la acap bb boff lb bcap q : Nat) (za zb : Nat → Int) (w : World) (ha1 : 1 ≤ la) (ha2 : la ≤ 512) (hb1 : 1 ≤ lb) (hb2 : lb ≤ 512) (hq : q ≤ 9) (hlv : IsLvl (la + lb - 1) q)
    (hab : ab < w.heap.size) (hbb : bb < w.heap.size) (hra : Rd (Value.int .u8) w ab aoff la za) (hrb : Rd (Value.int .u8) w bb boff lb zb)
    (va : ∀ i, i < la → 0 ≤ za i ∧ za i ≤ 255) (vb : ∀ i, i < lb → 0 ≤ zb i ∧ zb i ≤ 255) (m : Nat) (hm : m + 1 = la + lb) :
    Calls Tafg.prog 8 #[.slice (some ⟨ab, aoff, none⟩) la acap, .slice (some ⟨bb, boff, none⟩) lb bcap] w fun e w' => e = .returned (.bool true) ∧ Frm [] w w' := by
  have hcv := convolve_any ab aoff la acap bb boff lb bcap q (2 ^ (q + 1)) za zb w ha1 ha2 hb1 hb2 hq hlv rfl hab hbb hra hrb va vb m hm
  have hl : la + lb ≤ 2 ^ (q + 1) + 1 := by have := hlv.1; omega
  obtain ⟨s1, s2⟩ := conv_sure (q := q) (la := la) (lb := lb) (za := za) (zb := zb) hq ha1 ha2 hb1 hb2 hl va vb
  have s3 := s2 (2 ^ (q + 1)) (Nat.le_refl _)
  have em : m = la + lb - 1 := by omega
  rw [← em] at s3
  rw [s3] at hcv
  have s4 : ∀ i, i < m → (nearF (rawF (q + 1) la za lb zb i).1).1 = convZ za zb lb la i := fun i hi => by rw [s1 i (by omega)]
  have HRA := hid hra
  have HRB := hid hrb
  have HVA := hid va
  have HVB := hid vb
  have HS := hid s4
  have HL := hid hlv
  clear s1 s2 s3 s4 hra hrb va vb hl em hlv
  go_enter Tafg.func8, Tafg.ntmps8
  go_wp2_with fail
  refine (digits_short _ la acap w (by omega)).mono ?_
  rintro e w1 ⟨rfl, rfl⟩
  go_wp2_with fail
  refine (digits_short _ lb bcap _ (by omega)).mono ?_
  rintro e w2 ⟨rfl, rfl⟩
  go_wp2_with fail
  refine hcv.mono ?_
  rintro e w3 ⟨C, rfl, hC, hown, hfr⟩
  have hs := hfr.size
  have hown2 := hown.congr HS.out
  go_wp2_with fail
  refine (convolved_good ab aoff la acap bb boff lb bcap m C za zb w3 ha1 ha2 hb1 hb2 hm (by omega) (by omega) (HRA.out.frame hfr hab (by simp)) (HRB.out.frame hfr hbb (by simp)) HVA.out HVB.out hown2).mono ?_
  rintro e w4 ⟨rfl, hfr2⟩
  go_wp2
  go_ret
  exact ⟨rfl, hfr.trans hfr2⟩

theorem convExact_any (a b : Option Addr) (la acap lb bcap : Nat) (za zb : Nat → Int) (w : World) (ha : la ≤ 140737488351232) (hb : lb ≤ 140737488351232) (hca : la ≤ acap) (hcb : lb ≤ bcap)
    (hra : InRow .u8 w a la za) (hrb : InRow .u8 w b lb zb) (va : ∀ i, i < la → 0 ≤ za i ∧ za i ≤ 255) (vb : ∀ i, i < lb → 0 ≤ zb i ∧ zb i ≤ 255) :
    Calls Tafg.prog 8 #[.slice a la acap, .slice b lb bcap] w fun e w' => e = .returned (.bool true) ∧ Frm [] w w' := by
  by_cases h : 512 < la ∨ 512 < lb
  · exact convExact_long a b la acap lb bcap za zb w h ha hb hca hcb hra hrb
  by_cases h2 : la = 0 ∨ lb = 0
  · exact convExact_empty a b la acap lb bcap w h2 (by omega) (by omega)
  rcases hra with h0 | ⟨ab, aoff, rfl, hab, hra⟩
  · omega
  rcases hrb with h0 | ⟨bb, boff, rfl, hbb, hrb⟩
  · omega
  obtain ⟨q, hq, hlv⟩ := isLvl_ex (la + lb - 1) 9 (by omega)
  exact convExact_good ab aoff la acap bb boff lb bcap q za zb w (by omega) (by omega) (by omega) (by omega) hq hlv hab hbb hra hrb va vb (la + lb - 1) (by omega)
end Go.Proofs.Ygctaf
