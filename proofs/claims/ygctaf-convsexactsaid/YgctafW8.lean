/-
  WALKS: fft.Reverse.
-/
import Derived.Test.YgctafW6
import Derived.Test.YgctafRev
import Derived.BigRegion
namespace Go.Proofs.Ygctaf
open Go.RowKit
attribute [local go_sem] run_store_complex run_store_float CV_eq FV_eq

theorem own_swap {w : World} {b n k i j : Nat} {f : Nat → Nat × Nat} (hn : n = 2 ^ k) (hj : j = revN k i) (hi : i < n) (hlt : i < j) (h : Own CV w b n (revState k f i)) :
    Own CV ((w.setCell ⟨b, i, none⟩ (CV (revState k f i j))).setCell ⟨b, j, none⟩ (CV (revState k f i i))) b n (revState k f (i + 1)) := by
  subst hn hj
  have hjn : revN k i < 2 ^ k := revN_lt k i
  refine ((h.setCell hi (revState k f i (revN k i))).setCell hjn (revState k f i i)).congr fun a ha => ?_
  rw [revState_swap k f i hi hlt a ha]
  unfold upd
  rfl
theorem own_skip {w : World} {b n k i j : Nat} {f : Nat → Nat × Nat} (hn : n = 2 ^ k) (hj : j = revN k i) (hi : i < n) (hle : j ≤ i) (h : Own CV w b n (revState k f i)) : Own CV w b n (revState k f (i + 1)) := by
  subst hn hj
  exact h.congr fun a ha => (revState_skip k f i hi hle a ha).symm

def bitOf : Nat → Nat
  | 0 => 0
  | t + 1 => 2 ^ t
theorem bitOf_half (t : Nat) : bitOf (t + 1) / 2 = bitOf t := by
  cases t with
  | zero => rfl
  | succ t => show 2 ^ (t + 1) / 2 = 2 ^ t; rw [Nat.pow_succ]; omega
theorem bitOf_pow (k : Nat) : 2 ^ k / 2 = bitOf k := by
  cases k with
  | zero => rfl
  | succ t => show 2 ^ (t + 1) / 2 = 2 ^ t; rw [Nat.pow_succ]; omega

set_option maxHeartbeats 2000000 in
theorem reverse_any (b n cap k : Nat) (f : Nat → Nat × Nat) (w : World) (hk : k ≤ 11) (hn : n = 2 ^ k) (hf : Own CV w b n f) :
    Calls Tafg.prog 77 #[.slice (some ⟨b, 0, none⟩) n cap] w fun e w' =>
      e = .returned (.tuple #[]) ∧ Own CV w' b n (fun a => f (revN k a)) ∧ Frm [b] w w' ∧ w'.heap.size = w.heap.size := by
  have hl := level_pow k n hk hn
  have hb : n ≤ 2048 := by rw [hn]; exact Nat.pow_le_pow_right (by decide) hk
  have HN := hid hn
  have HF := hid hf
  have d1 : decide ((k : Int) < 0) = false := by simp
  clear hn hf
  go_enter Tafg.func77, Tafg.ntmps77
  go_wp2_with (first | (go_at_call 78; refine same_mono (hl _) ?_))
  go_loopw [3, 4, 5] (fun j i _ wr => ∃ ii : Nat, ii ≤ n ∧ i = .int .i64 ii ∧ j = .int .i64 (revN k ii) ∧ Own CV wr b n (revState k f ii) ∧ Frm [b] w wr ∧ wr.heap.size = w.heap.size) (fun _ i _ _ => n - (intOf i).toNat)
  case atStart => exact ⟨0, Nat.zero_le _, rfl, by rw [revN_zero]; rfl, by rw [revState_zero]; exact HF.out, Frm.refl _ _, rfl⟩
  case round =>
    obtain ⟨i, hi, rfl, rfl, hown, hfr, hsz⟩ := hrel
    by_cases hlt : i < n
    · obtain ⟨j, hj⟩ : ∃ j, j = revN k i := ⟨_, rfl⟩
      rw [← hj]
      have hjn : j < n := by rw [hj, HN.out]; exact revN_lt k i
      have HJ := hid hj
      clear hj
      by_cases hij : i < j
      · have c1 := hown.cell hlt
        have c2 := hown.cell hjn
        have f1 := hown.free hlt
        have f2 := hown.free hjn
        have hst := own_swap HN.out HJ.out hlt hij hown
        have HST := hid hst
        have HFR := hid hfr
        have HSZ := hid hsz
        clear hst hown hfr hsz
        go_wp2
        go_region
        go_wp2
        go_loop [3, 5] (fun sj sb => ∃ t jj bt : Nat, t ≤ k ∧ jj < 2 ^ t ∧ bt = bitOf t ∧ sj = .int .i64 jj ∧ sb = .int .i64 bt ∧ incr t jj = revN k (i + 1)) (fun _ sb => (intOf sb).toNat)
        case atStart => exact ⟨k, j, n / 2, Nat.le_refl _, by rw [← HN.out]; exact hjn, by rw [HN.out]; exact bitOf_pow k, rfl, rfl, by rw [HJ.out, incr_rev]⟩
        case round =>
          obtain ⟨t, jj, bt, ht, hjj, hbt, rfl, rfl, hinc⟩ := hrel
          cases t with
          | zero =>
            have hb0 : bt = 0 := hbt
            subst hb0
            have hor := bit_or0 jj (by have : jj < 1 := hjj; omega)
            have HINC := hid hinc
            clear hinc hbt hjj
            go_wp2
            go_roundw
            case rel => exact ⟨i + 1, by omega, by go_num, by rw [← HINC.out]; rfl, HST.out.drew, ((HFR.out.setCell (.inl (by simp)) _).setCell (.inl (by simp)) _).drew, by simpa using HSZ.out⟩
            case measure => simp [intOf]; omega
          | succ t =>
            have hb0 : bt = 2 ^ t := hbt
            have hbig : 2 ^ (t + 1) ≤ 2 ^ 11 := Nat.pow_le_pow_right (by decide) (by omega)
            have hpos := Nat.two_pow_pos t
            have hps := Nat.pow_succ 2 t
            have hand := bit_and t jj (by omega) hjj
            by_cases hge : 2 ^ t ≤ jj
            · have hx := bit_xor t jj (by omega) hjj hge
              have hd : decide (2 ^ t ≤ jj) = true := by simpa using hge
              have hhalf := bitOf_half t
              rw [hd] at hand
              have hi2 : incr t (jj - 2 ^ t) = revN k (i + 1) := by
                have : incr (t + 1) jj = incr t (jj - 2 ^ t) := if_pos hge
                rw [← this]; exact hinc
              rw [← hbt] at hhalf
              rw [← hb0] at hand hx hge
              have c1 : (0 : Int) < (bt : Int) := by omega
              have hjs : jj - bt < 2 ^ t := by omega
              rw [← hb0] at hi2
              have c2 : (bt : Int) / 2 = ((bitOf t : Nat) : Int) := by omega
              obtain ⟨nj, hnj⟩ : ∃ nj, nj = jj - bt := ⟨_, rfl⟩
              obtain ⟨nb, hnb⟩ : ∃ nb, nb = bitOf t := ⟨_, rfl⟩
              rw [← hnj] at hx hjs hi2
              rw [← hnb] at c2
              have hlt2 : nb < bt := by rw [hnb]; omega
              have HI := hid hi2
              have HJS := hid hjs
              have HNB := hid hnb
              clear hb0 hbt hinc hi2 hjs hnb hnj hhalf hd hjj hbig hps hge
              go_wp2
              go_round
              case rel => exact ⟨t, nj, nb, by omega, HJS.out, HNB.out, rfl, rfl, HI.out⟩
              case measure => simp [intOf]; omega
            · have hd : decide (2 ^ t ≤ jj) = false := by simpa using hge
              rw [hd] at hand
              have hor := bit_or t jj (by omega) (by omega)
              have hi2 : jj + 2 ^ t = revN k (i + 1) := by
                have : incr (t + 1) jj = jj + 2 ^ t := if_neg hge
                rw [← this]; exact hinc
              rw [← hi2.symm] at hor
              rw [← hb0] at hand hor
              have c1 : (0 : Int) < (bt : Int) := by omega
              clear hb0 hbt hinc hi2 hd hjj hbig hps hge
              go_wp2
              go_roundw
              case rel => exact ⟨i + 1, by omega, by go_num, rfl, HST.out.drew, ((HFR.out.setCell (.inl (by simp)) _).setCell (.inl (by simp)) _).drew, by simpa using HSZ.out⟩
              case measure => simp [intOf]; omega
      · have hst := own_skip HN.out HJ.out hlt (by omega) hown
        have HST := hid hst
        have HFR := hid hfr
        have HSZ := hid hsz
        clear hst hown hfr hsz
        have d2 : ¬ ((i : Int) < (j : Int)) := by omega
        go_wp2
        go_loop [3, 5] (fun sj sb => ∃ t jj bt : Nat, t ≤ k ∧ jj < 2 ^ t ∧ bt = bitOf t ∧ sj = .int .i64 jj ∧ sb = .int .i64 bt ∧ incr t jj = revN k (i + 1)) (fun _ sb => (intOf sb).toNat)
        case atStart => exact ⟨k, j, n / 2, Nat.le_refl _, by rw [← HN.out]; exact hjn, by rw [HN.out]; exact bitOf_pow k, rfl, rfl, by rw [HJ.out, incr_rev]⟩
        case round =>
          obtain ⟨t, jj, bt, ht, hjj, hbt, rfl, rfl, hinc⟩ := hrel
          cases t with
          | zero =>
            have hb0 : bt = 0 := hbt
            subst hb0
            have hor := bit_or0 jj (by have : jj < 1 := hjj; omega)
            have HINC := hid hinc
            clear hinc hbt hjj
            go_wp2
            go_roundw
            case rel => exact ⟨i + 1, by omega, by go_num, by rw [← HINC.out]; rfl, HST.out, HFR.out, HSZ.out⟩
            case measure => simp [intOf]; omega
          | succ t =>
            have hb0 : bt = 2 ^ t := hbt
            have hbig : 2 ^ (t + 1) ≤ 2 ^ 11 := Nat.pow_le_pow_right (by decide) (by omega)
            have hpos := Nat.two_pow_pos t
            have hps := Nat.pow_succ 2 t
            have hand := bit_and t jj (by omega) hjj
            by_cases hge : 2 ^ t ≤ jj
            · have hx := bit_xor t jj (by omega) hjj hge
              have hd : decide (2 ^ t ≤ jj) = true := by simpa using hge
              have hhalf := bitOf_half t
              rw [hd] at hand
              have hi2 : incr t (jj - 2 ^ t) = revN k (i + 1) := by
                have : incr (t + 1) jj = incr t (jj - 2 ^ t) := if_pos hge
                rw [← this]; exact hinc
              rw [← hbt] at hhalf
              rw [← hb0] at hand hx hge
              have c1 : (0 : Int) < (bt : Int) := by omega
              have hjs : jj - bt < 2 ^ t := by omega
              rw [← hb0] at hi2
              have c2 : (bt : Int) / 2 = ((bitOf t : Nat) : Int) := by omega
              obtain ⟨nj, hnj⟩ : ∃ nj, nj = jj - bt := ⟨_, rfl⟩
              obtain ⟨nb, hnb⟩ : ∃ nb, nb = bitOf t := ⟨_, rfl⟩
              rw [← hnj] at hx hjs hi2
              rw [← hnb] at c2
              have hlt2 : nb < bt := by rw [hnb]; omega
              have HI := hid hi2
              have HJS := hid hjs
              have HNB := hid hnb
              clear hb0 hbt hinc hi2 hjs hnb hnj hhalf hd hjj hbig hps hge
              go_wp2
              go_round
              case rel => exact ⟨t, nj, nb, by omega, HJS.out, HNB.out, rfl, rfl, HI.out⟩
              case measure => simp [intOf]; omega
            · have hd : decide (2 ^ t ≤ jj) = false := by simpa using hge
              rw [hd] at hand
              have hor := bit_or t jj (by omega) (by omega)
              have hi2 : jj + 2 ^ t = revN k (i + 1) := by
                have : incr (t + 1) jj = jj + 2 ^ t := if_neg hge
                rw [← this]; exact hinc
              rw [← hi2.symm] at hor
              rw [← hb0] at hand hor
              have c1 : (0 : Int) < (bt : Int) := by omega
              clear hb0 hbt hinc hi2 hd hjj hbig hps hge
              go_wp2
              go_roundw
              case rel => exact ⟨i + 1, by omega, by go_num, rfl, HST.out, HFR.out, HSZ.out⟩
              case measure => simp [intOf]; omega
    · have e : i = n := by omega
      subst e
      have HST := hid hown
      have HFR := hid hfr
      have HSZ := hid hsz
      clear hown hfr hsz
      go_wp2
      go_end0
      exact ⟨rfl, HST.out.congr fun a ha => by rw [HN.out, revState_end k f a (by have := HN.out; omega)], HFR.out, HSZ.out⟩
end Go.Proofs.Ygctaf
