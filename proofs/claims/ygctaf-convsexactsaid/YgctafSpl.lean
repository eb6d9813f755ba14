/-
  THE BLOCKS OF THE SPLIT RADIX: block m (of its size) is one of the split's iff m + 1 = 4^c (2 d + 1).
-/
import Derived.Test.YgctafLvl2
import Derived.Test.YgctafW24
namespace Go.Proofs.Ygctaf

theorem four_pos (c : Nat) : 0 < 4 ^ c := Nat.pow_pos (by decide)
theorem val_unique : ∀ (c c' d d' : Nat), 4 ^ c * (2 * d + 1) = 4 ^ c' * (2 * d' + 1) → c = c' ∧ d = d'
  | 0, 0, d, d', h => by rw [Nat.pow_zero, Nat.one_mul, Nat.one_mul] at h; omega
  | 0, c' + 1, d, d', h => by
    rw [Nat.pow_zero, Nat.one_mul, Nat.pow_succ, Nat.mul_comm (4 ^ c') 4, Nat.mul_assoc] at h; omega
  | c + 1, 0, d, d', h => by
    rw [Nat.pow_zero, Nat.one_mul, Nat.pow_succ, Nat.mul_comm (4 ^ c) 4, Nat.mul_assoc] at h; omega
  | c + 1, c' + 1, d, d', h => by
    rw [Nat.pow_succ, Nat.pow_succ, Nat.mul_comm (4 ^ c) 4, Nat.mul_comm (4 ^ c') 4, Nat.mul_assoc, Nat.mul_assoc] at h
    have := val_unique c c' d d' (by omega)
    omega
theorem val_excl : ∀ (c c' d d' : Nat), 4 ^ c * (2 * d + 1) ≠ 2 * (4 ^ c' * (2 * d' + 1))
  | 0, c', d, d', h => by rw [Nat.pow_zero, Nat.one_mul] at h; omega
  | c + 1, 0, d, d', h => by
    rw [Nat.pow_zero, Nat.one_mul, Nat.pow_succ, Nat.mul_comm (4 ^ c) 4, Nat.mul_assoc] at h; omega
  | c + 1, c' + 1, d, d', h => by
    rw [Nat.pow_succ, Nat.pow_succ, Nat.mul_comm (4 ^ c) 4, Nat.mul_comm (4 ^ c') 4, Nat.mul_assoc, Nat.mul_assoc] at h
    exact val_excl c c' d d' (by omega)
theorem val_ex (N : Nat) (h : 0 < N) : (∃ c d, N = 4 ^ c * (2 * d + 1)) ∨ (∃ c d, N = 2 * (4 ^ c * (2 * d + 1))) := by
  induction N using Nat.strongRecOn with
  | ind N ih =>
    by_cases h1 : N % 2 = 1
    · exact .inl ⟨0, N / 2, by rw [Nat.pow_zero, Nat.one_mul]; omega⟩
    · by_cases h2 : N % 4 = 2
      · exact .inr ⟨0, N / 4, by rw [Nat.pow_zero, Nat.one_mul]; omega⟩
      · rcases ih (N / 4) (by omega) (by omega) with ⟨c, d, e⟩ | ⟨c, d, e⟩
        · refine .inl ⟨c + 1, d, ?_⟩
          rw [Nat.pow_succ, Nat.mul_comm (4 ^ c) 4, Nat.mul_assoc, ← e]; omega
        · refine .inr ⟨c + 1, d, ?_⟩
          rw [Nat.pow_succ, Nat.mul_comm (4 ^ c) 4, Nat.mul_assoc]
          omega

/-- Block m is one of the split's. -/
def Sp (m : Nat) : Prop := ∃ c d, m + 1 = 4 ^ c * (2 * d + 1)
theorem sp_even (m : Nat) : Sp (2 * m) := ⟨0, m, by rw [Nat.pow_zero, Nat.one_mul]⟩
theorem sp_odd (m : Nat) : Sp (2 * m + 1) ↔ ¬ Sp m := by
  constructor
  · rintro ⟨c, d, h⟩ ⟨c', d', h'⟩
    cases c with
    | zero => rw [Nat.pow_zero, Nat.one_mul] at h; omega
    | succ c =>
      rw [Nat.pow_succ, Nat.mul_comm (4 ^ c) 4, Nat.mul_assoc] at h
      exact val_excl c' c d' d (by omega)
  · intro h
    rcases val_ex (m + 1) (by omega) with ⟨c, d, e⟩ | ⟨c, d, e⟩
    · exact absurd ⟨c, d, e⟩ h
    · refine ⟨c + 1, d, ?_⟩
      rw [Nat.pow_succ, Nat.mul_comm (4 ^ c) 4, Nat.mul_assoc]; omega

/-- The blocks done: those of the runs before c, and of run c those that begin before i. -/
def Rn (S j c i m : Nat) : Prop := ∃ c' d', m + 1 = 4 ^ c' * (2 * d' + 1) ∧ (c' < c ∨ (c' = c ∧ m * S + j < i))
theorem Rn.sp {S j c i m : Nat} (h : Rn S j c i m) : Sp m := by obtain ⟨c', d', e, _⟩ := h; exact ⟨c', d', e⟩
/-- None at the start. -/
theorem rn_start {S j m : Nat} (h : Rn S j 0 j m) : False := by
  obtain ⟨c', d', e, h | ⟨h1, h2⟩⟩ := h
  · omega
  · omega
/-- The block at hand is not done. -/
theorem rn_not {S j c m d : Nat} (hm : m + 1 = 4 ^ c * (2 * d + 1)) : ¬ Rn S j c (m * S + j) m := by
  rintro ⟨c', d', e, h | ⟨h1, h2⟩⟩
  · rw [hm] at e
    have := (val_unique _ _ _ _ e).1
    omega
  · omega
/-- One more block. -/
theorem rn_step {S j c m d G : Nat} (hS : 0 < S) (hG : G = 4 ^ c * S) (hm : m + 1 = 4 ^ c * (2 * d + 1)) (m' : Nat) : Rn S j c (m * S + j + 2 * G) m' ↔ (Rn S j c (m * S + j) m' ∨ m' = m) := by
  constructor
  · rintro ⟨c', d', e, h | ⟨h1, h2⟩⟩
    · exact .inl ⟨c', d', e, .inl h⟩
    · subst h1
      by_cases hlt : m' * S + j < m * S + j
      · exact .inl ⟨c', d', e, .inr ⟨rfl, hlt⟩⟩
      · refine .inr ?_
        have h3 : m' * S < (m + 2 * 4 ^ c') * S := by
          rw [Nat.add_mul, Nat.mul_assoc 2, ← hG]; omega
        have h4 : m' < m + 2 * 4 ^ c' := Nat.lt_of_mul_lt_mul_right h3
        have h5 : m * S ≤ m' * S := by omega
        have h6 : m ≤ m' := Nat.le_of_mul_le_mul_right h5 hS
        have h7 : 4 ^ c' * (2 * d + 1) ≤ 4 ^ c' * (2 * d' + 1) := by omega
        have h8 : 4 ^ c' * (2 * d' + 1) < 4 ^ c' * (2 * d + 3) := by
          have : 4 ^ c' * (2 * d + 3) = 4 ^ c' * (2 * d + 1) + 2 * 4 ^ c' := by rw [show 2 * d + 3 = (2 * d + 1) + 2 from rfl, Nat.mul_add, Nat.mul_comm (4 ^ c') 2]
          omega
        have h9 := Nat.le_of_mul_le_mul_left h7 (four_pos c')
        have h10 := Nat.lt_of_mul_lt_mul_left h8
        have : d' = d := by omega
        subst this
        omega
  · rintro (⟨c', d', e, h | ⟨h1, h2⟩⟩ | rfl)
    · exact ⟨c', d', e, .inl h⟩
    · exact ⟨c', d', e, .inr ⟨h1, by omega⟩⟩
    · refine ⟨c, d, hm, .inr ⟨rfl, ?_⟩⟩
      have : 0 < G := by rw [hG]; exact Nat.mul_pos (four_pos c) hS
      omega
/-- The next run. -/
theorem rn_next {S j c i m n G : Nat} (hG : G = 4 ^ c * S) (hi : n ≤ i) (hm : m * S + j < n) : Rn S j (c + 1) (4 * G - S + j) m ↔ Rn S j c i m := by
  constructor
  · rintro ⟨c', d', e, h | ⟨h1, h2⟩⟩
    · by_cases hc : c' < c
      · exact ⟨c', d', e, .inl hc⟩
      · exact ⟨c', d', e, .inr ⟨by omega, by omega⟩⟩
    · exfalso
      subst h1
      have h3 : 4 * 4 ^ c ≤ m + 1 := by
        rw [e, Nat.pow_succ, Nat.mul_comm (4 ^ c) 4]
        exact Nat.le_mul_of_pos_right _ (by omega)
      have h4 := Nat.mul_le_mul_right S h3
      rw [Nat.mul_assoc 4, ← hG, Nat.add_mul, Nat.one_mul] at h4
      omega
  · rintro ⟨c', d', e, h | ⟨h1, h2⟩⟩
    · exact ⟨c', d', e, .inl (by omega)⟩
    · exact ⟨c', d', e, .inl (by omega)⟩
/-- All are done. -/
theorem rn_all {S j c m n G : Nat} (hG : G = 4 ^ c * S) (hi : n ≤ G - S + j) (hm : m * S + j < n) : Rn S j c (G - S + j) m ↔ Sp m := by
  constructor
  · exact Rn.sp
  · rintro ⟨c', d', e⟩
    by_cases hc : c' < c
    · exact ⟨c', d', e, .inl hc⟩
    · by_cases hc2 : c' = c
      · exact ⟨c', d', e, .inr ⟨hc2, by omega⟩⟩
      · exfalso
        have h1 : 4 ^ c ≤ 4 ^ c' := Nat.pow_le_pow_right (by decide) (by omega)
        have h2 : 4 ^ c ≤ m + 1 := by
          rw [e]
          exact Nat.le_trans h1 (Nat.le_mul_of_pos_right _ (by omega))
        have h4 := Nat.mul_le_mul_right S h2
        rw [← hG, Nat.add_mul, Nat.one_mul] at h4
        omega
/-- The block that run c begins with. -/
theorem run_first {c S G : Nat} (hG : G = 4 ^ c * S) : ∃ m, m + 1 = 4 ^ c * (2 * 0 + 1) ∧ m * S = G - S := by
  have := four_pos c
  refine ⟨4 ^ c - 1, by omega, ?_⟩
  rw [Nat.sub_mul, Nat.one_mul, hG]
theorem run_step {c d m S G : Nat} (hG : G = 4 ^ c * S) (hm : m + 1 = 4 ^ c * (2 * d + 1)) : ∃ m', m' + 1 = 4 ^ c * (2 * (d + 1) + 1) ∧ m' * S = m * S + 2 * G := by
  refine ⟨m + 2 * 4 ^ c, ?_, ?_⟩
  · have : 4 ^ c * (2 * (d + 1) + 1) = 4 ^ c * (2 * d + 1) + 2 * 4 ^ c := by rw [show 2 * (d + 1) + 1 = (2 * d + 1) + 2 from by omega, Nat.mul_add, Nat.mul_comm (4 ^ c) 2]
    omega
  · rw [Nat.add_mul, Nat.mul_assoc 2, ← hG]

/-! ### The state -/
/-- Between the sizes: level t where the block of 2^t is the split's, else t - 1 (t >= 1). -/
def SpLev (k : Nat) (x : Nat → Cx) (L : Rat) (e : Int) (c : Rat) (n t : Nat) (g : Nat → Nat × Nat) : Prop :=
  ∀ i, i < n → (Sp (i / 2 ^ (t + 1)) → At k x L e c (t + 1) (g i) i) ∧ (¬ Sp (i / 2 ^ (t + 1)) → At k x L e c t (g i) i)

/-- Within pairsOf. -/
def StP (k : Nat) (x : Nat → Cx) (L : Rat) (e : Int) (c : Rat) (n r i0 : Nat) (g : Nat → Nat × Nat) : Prop :=
  ∀ i, i < n → (Rn 2 0 r i0 (i / 2) → At k x L (e + 2) (c + 4) 1 (g i) i) ∧ (¬ Rn 2 0 r i0 (i / 2) → At k x L e c 0 (g i) i)
theorem StP.start {k : Nat} {x : Nat → Cx} {L : Rat} {e : Int} {c : Rat} {n : Nat} {g : Nat → Nat × Nat} (h : ∀ i, i < n → At k x L e c 0 (g i) i) : StP k x L e c n 0 0 g := fun i hi =>
  ⟨fun hd => (rn_start hd).elim, fun _ => h i hi⟩
theorem StP.at {k : Nat} {x : Nat → Cx} {L : Rat} {e : Int} {c : Rat} {n r m d : Nat} {g : Nat → Nat × Nat} (hm : m + 1 = 4 ^ r * (2 * d + 1)) (hn : m * 2 + 1 < n) (h : StP k x L e c n r (m * 2) g) :
    At k x L e c 0 (g (m * 2)) (m * 2) ∧ At k x L e c 0 (g (m * 2 + 1)) (m * 2 + 1) := by
  have hno := rn_not (S := 2) (j := 0) hm
  rw [Nat.add_zero] at hno
  exact ⟨(h _ (by omega)).2 (by rw [show m * 2 / 2 = m from by omega]; exact hno), (h _ hn).2 (by rw [show (m * 2 + 1) / 2 = m from by omega]; exact hno)⟩
theorem StP.step {k : Nat} {x : Nat → Cx} {L : Rat} {e : Int} {c : Rat} {n r m d G : Nat} {g : Nat → Nat × Nat} {v0 v1 : Nat × Nat} (hG : G = 4 ^ r * 2) (hm : m + 1 = 4 ^ r * (2 * d + 1)) (h : StP k x L e c n r (m * 2) g)
    (h0 : At k x L (e + 2) (c + 4) 1 v0 (m * 2)) (h1 : At k x L (e + 2) (c + 4) 1 v1 (m * 2 + 1)) : StP k x L e c n r (m * 2 + 2 * G) (upd (upd g (m * 2) v0) (m * 2 + 1) v1) := fun i hi => by
  have key := rn_step (S := 2) (j := 0) (by decide) hG hm (i / 2)
  rw [Nat.add_zero] at key
  by_cases e1 : i = m * 2 + 1
  · subst e1
    rw [upd_same]
    exact ⟨fun _ => h1, fun hd => absurd (key.2 (.inr (by omega))) hd⟩
  · rw [upd_ne _ _ _ _ e1]
    by_cases e0 : i = m * 2
    · subst e0
      rw [upd_same]
      exact ⟨fun _ => h0, fun hd => absurd (key.2 (.inr (by omega))) hd⟩
    · rw [upd_ne _ _ _ _ e0]
      have hne : ¬ (i / 2 = m) := by omega
      have key2 : Rn 2 0 r (m * 2 + 2 * G) (i / 2) ↔ Rn 2 0 r (m * 2) (i / 2) := by
        rw [key]
        exact ⟨fun hh => hh.resolve_right hne, fun hh => .inl hh⟩
      rw [key2]
      exact h i hi
theorem StP.next {k : Nat} {x : Nat → Cx} {L : Rat} {e : Int} {c : Rat} {n r i0 G : Nat} {g : Nat → Nat × Nat} (hG : G = 4 ^ r * 2) (hi0 : n ≤ i0) (h : StP k x L e c n r i0 g) : StP k x L e c n (r + 1) (4 * G - 2) g := fun i hi => by
  have key := rn_next (S := 2) (j := 0) (m := i / 2) hG hi0 (by omega)
  rw [Nat.add_zero (4 * G - 2)] at key
  rw [key]
  exact h i hi
theorem StP.fin {k : Nat} {x : Nat → Cx} {L : Rat} {e : Int} {c : Rat} {n r G : Nat} {g : Nat → Nat × Nat} (hG : G = 4 ^ r * 2) (hn : n ≤ G - 2) (hc : c + 4 ≤ 1024) (h : StP k x L e c n r (G - 2) g) : SpLev k x L (e + 2) (c + 4) n 0 g := fun i hi => by
  have key := rn_all (S := 2) (j := 0) (m := i / 2) hG (by omega) (show i / 2 * 2 + 0 < n by omega)
  rw [Nat.add_zero (G - 2)] at key
  rw [show (2 : Nat) ^ (0 + 1) = 2 from rfl, ← key]
  obtain ⟨a, b⟩ := h i hi
  exact ⟨a, fun hd => (b hd).mono (by omega) (by grind) hc⟩

/-- Within joinSplit. -/
def DnJ (q j r i0 p : Nat) : Prop := (p % q < j ∧ Sp (p / (4 * q))) ∨ (p % q = j ∧ Rn (4 * q) j r i0 (p / (4 * q)))
def StJ (k : Nat) (x : Nat → Cx) (L : Rat) (e : Int) (c : Rat) (t q n j r i0 : Nat) (g : Nat → Nat × Nat) : Prop :=
  ∀ p, p < n → (DnJ q j r i0 p → At k x L (e + 8) (c + 20) (t + 2) (g p) p) ∧ (¬ DnJ q j r i0 p → (Sp (p / (2 * q)) → At k x L e c (t + 1) (g p) p) ∧ (¬ Sp (p / (2 * q)) → At k x L e c t (g p) p))
theorem StJ.start {k : Nat} {x : Nat → Cx} {L : Rat} {e : Int} {c : Rat} {t q n : Nat} {g : Nat → Nat × Nat} (hq : q = 2 ^ t) (h : SpLev k x L e c n t g) : StJ k x L e c t q n 0 0 0 g := fun p hp => by
  refine ⟨fun hd => ?_, fun _ => ?_⟩
  · rcases hd with ⟨h1, _⟩ | ⟨_, h2⟩
    · omega
    · exact (rn_start h2).elim
  · have e2 : 2 * q = 2 ^ (t + 1) := by rw [hq, Nat.pow_succ, Nat.mul_comm]
    rw [e2]
    exact h p hp
theorem blk_div {q m r : Nat} (hr : r < 4 * q) : (4 * q * m + r) / (4 * q) = m := by
  rw [Nat.mul_add_div (by omega), Nat.div_eq_of_lt hr, Nat.add_zero]
theorem blk_half {q m r : Nat} (hr : r < 2 * q) : (4 * q * m + r) / (2 * q) = 2 * m ∧ (4 * q * m + 2 * q + r) / (2 * q) = 2 * m + 1 := by
  have e : 4 * q * m = 2 * q * (2 * m) := by rw [show 4 * q = 2 * q * 2 from by omega, Nat.mul_assoc]
  constructor
  · rw [e, Nat.mul_add_div (by omega), Nat.div_eq_of_lt hr, Nat.add_zero]
  · rw [e, show 2 * q * (2 * m) + 2 * q + r = 2 * q * (2 * m + 1) + r from by rw [Nat.mul_add, Nat.mul_one], Nat.mul_add_div (by omega), Nat.div_eq_of_lt hr, Nat.add_zero]
theorem StJ.at {k : Nat} {x : Nat → Cx} {L : Rat} {e : Int} {c : Rat} {t q n j r m d P : Nat} {g : Nat → Nat × Nat} (hP : P = 4 * q * m) (hj : j < q) (hm : m + 1 = 4 ^ r * (2 * d + 1)) (hn : P + 4 * q ≤ n) (h : StJ k x L e c t q n j r (P + j) g) :
    At k x L e c (t + 1) (g (P + j)) (P + j) ∧ At k x L e c (t + 1) (g (P + q + j)) (P + q + j) ∧ At k x L e c t (g (P + 2 * q + j)) (P + 2 * q + j) ∧ At k x L e c t (g (P + 3 * q + j)) (P + 3 * q + j) := by
  subst hP
  have hno := rn_not (S := 4 * q) (j := j) hm
  rw [Nat.mul_comm m (4 * q)] at hno
  have spm : Sp m := ⟨r, d, hm⟩
  have ev := sp_even m
  have od : ¬ Sp (2 * m + 1) := fun hh => (sp_odd m).1 hh spm
  have m0 := blk_mod (s := m) (r := 0) hj
  have m1 := blk_mod (s := m) (r := 1) hj
  have m2 := blk_mod (s := m) (r := 2) hj
  have m3 := blk_mod (s := m) (r := 3) hj
  rw [Nat.zero_mul, Nat.add_zero] at m0
  rw [Nat.one_mul] at m1
  have nd : ∀ p, p % q = j → p / (4 * q) = m → ¬ DnJ q j r (4 * q * m + j) p := fun p h1 h2 hd => by
    unfold DnJ at hd
    rw [h1, h2] at hd
    rcases hd with ⟨h3, _⟩ | ⟨_, h4⟩
    · omega
    · exact hno h4
  refine ⟨((h _ (by omega)).2 (nd _ m0 (blk_div (by omega)))).1 ?_, ((h _ (by omega)).2 (nd _ m1 (by rw [Nat.add_assoc]; exact blk_div (by omega)))).1 ?_, ((h _ (by omega)).2 (nd _ m2 (by rw [Nat.add_assoc]; exact blk_div (by omega)))).2 ?_, ((h _ (by omega)).2 (nd _ m3 (by rw [Nat.add_assoc]; exact blk_div (by omega)))).2 ?_⟩
  · rw [(blk_half (by omega)).1]; exact ev
  · rw [Nat.add_assoc, (blk_half (by omega)).1]; exact ev
  · rw [(blk_half (by omega)).2]; exact od
  · rw [show 4 * q * m + 3 * q + j = 4 * q * m + 2 * q + (q + j) from by omega, (blk_half (by omega)).2]; exact od
theorem StJ.step {k : Nat} {x : Nat → Cx} {L : Rat} {e : Int} {c : Rat} {t q n j r m d P G : Nat} {g : Nat → Nat × Nat} {v0 v1 v2 v3 : Nat × Nat} (hP : P = 4 * q * m) (hj : j < q) (hG : G = 4 ^ r * (4 * q)) (hm : m + 1 = 4 ^ r * (2 * d + 1)) (h : StJ k x L e c t q n j r (P + j) g)
    (h0 : At k x L (e + 8) (c + 20) (t + 2) v0 (P + j)) (h1 : At k x L (e + 8) (c + 20) (t + 2) v1 (P + q + j)) (h2 : At k x L (e + 8) (c + 20) (t + 2) v2 (P + 2 * q + j)) (h3 : At k x L (e + 8) (c + 20) (t + 2) v3 (P + 3 * q + j)) :
    StJ k x L e c t q n j r (P + j + 2 * G) (upd (upd (upd (upd g (P + j) v0) (P + 2 * q + j) v2) (P + q + j) v1) (P + 3 * q + j) v3) := by
  subst hP
  have m0 := blk_mod (s := m) (r := 0) hj
  have m1 := blk_mod (s := m) (r := 1) hj
  have m2 := blk_mod (s := m) (r := 2) hj
  have m3 := blk_mod (s := m) (r := 3) hj
  rw [Nat.zero_mul, Nat.add_zero] at m0
  rw [Nat.one_mul] at m1
  intro p hp
  have key := rn_step (S := 4 * q) (j := j) (by omega) hG hm (p / (4 * q))
  rw [Nat.mul_comm m (4 * q)] at key
  have dn : ∀ p, p % q = j → p / (4 * q) = m → DnJ q j r (4 * q * m + j + 2 * G) p := fun p g1 g2 => by
    have key := rn_step (S := 4 * q) (j := j) (by omega) hG hm (p / (4 * q))
    rw [Nat.mul_comm m (4 * q)] at key
    exact .inr ⟨g1, key.2 (.inr g2)⟩
  by_cases e3 : p = 4 * q * m + 3 * q + j
  · subst e3
    rw [upd_same]
    exact ⟨fun _ => h3, fun hd => absurd (dn _ m3 (by rw [Nat.add_assoc]; exact blk_div (by omega))) hd⟩
  · rw [upd_ne _ _ _ _ e3]
    by_cases e1 : p = 4 * q * m + q + j
    · subst e1
      rw [upd_same]
      exact ⟨fun _ => h1, fun hd => absurd (dn _ m1 (by rw [Nat.add_assoc]; exact blk_div (by omega))) hd⟩
    · rw [upd_ne _ _ _ _ e1]
      by_cases e2 : p = 4 * q * m + 2 * q + j
      · subst e2
        rw [upd_same]
        exact ⟨fun _ => h2, fun hd => absurd (dn _ m2 (by rw [Nat.add_assoc]; exact blk_div (by omega))) hd⟩
      · rw [upd_ne _ _ _ _ e2]
        by_cases e0 : p = 4 * q * m + j
        · subst e0
          rw [upd_same]
          exact ⟨fun _ => h0, fun hd => absurd (dn _ m0 (blk_div (by omega))) hd⟩
        · rw [upd_ne _ _ _ _ e0]
          have key2 : DnJ q j r (4 * q * m + j + 2 * G) p ↔ DnJ q j r (4 * q * m + j) p := by
            unfold DnJ
            rw [key]
            constructor
            · rintro (hd | ⟨hd1, hd2 | hd2⟩)
              · exact .inl hd
              · exact .inr ⟨hd1, hd2⟩
              · exfalso
                have b1 := Nat.mod_add_div p (4 * q)
                have b2 := Nat.mod_lt p (show 0 < 4 * q by omega)
                rw [hd2] at b1
                have := blk_pos (q := q) (s := m) (i := p) (by omega) (by omega)
                rw [hd1] at this
                omega
            · rintro (hd | ⟨hd1, hd2⟩)
              · exact .inl hd
              · exact .inr ⟨hd1, .inl hd2⟩
          rw [key2]
          exact h p hp
theorem pos_run {q j p n : Nat} (hj : j < q) (hn : ∃ u, n = 4 * q * u) (hp : p < n) : p / (4 * q) * (4 * q) + j < n := by
  obtain ⟨u, rfl⟩ := hn
  have h1 : p / (4 * q) < u := Nat.div_lt_of_lt_mul hp
  have h2 := Nat.mul_le_mul_right (4 * q) (show p / (4 * q) + 1 ≤ u from h1)
  rw [Nat.add_mul, Nat.one_mul, Nat.mul_comm u] at h2
  omega
theorem StJ.next {k : Nat} {x : Nat → Cx} {L : Rat} {e : Int} {c : Rat} {t q n j r i0 G : Nat} {g : Nat → Nat × Nat} (hj : j < q) (hn : ∃ u, n = 4 * q * u) (hG : G = 4 ^ r * (4 * q)) (hi0 : n ≤ i0) (h : StJ k x L e c t q n j r i0 g) : StJ k x L e c t q n j (r + 1) (4 * G - 4 * q + j) g := fun p hp => by
  have key := rn_next (S := 4 * q) (j := j) (m := p / (4 * q)) hG hi0 (pos_run hj hn hp)
  have key2 : DnJ q j (r + 1) (4 * G - 4 * q + j) p ↔ DnJ q j r i0 p := by unfold DnJ; rw [key]
  rw [key2]
  exact h p hp
/-- The next index. -/
theorem StJ.more {k : Nat} {x : Nat → Cx} {L : Rat} {e : Int} {c : Rat} {t q n j r G : Nat} {g : Nat → Nat × Nat} (hj : j < q) (hn : ∃ u, n = 4 * q * u) (hG : G = 4 ^ r * (4 * q)) (hi0 : n ≤ G - 4 * q + j) (h : StJ k x L e c t q n j r (G - 4 * q + j) g) : StJ k x L e c t q n (j + 1) 0 (j + 1) g := fun p hp => by
  have key := rn_all (S := 4 * q) (j := j) (m := p / (4 * q)) hG hi0 (pos_run hj hn hp)
  have key2 : DnJ q (j + 1) 0 (j + 1) p ↔ DnJ q j r (G - 4 * q + j) p := by
    unfold DnJ
    rw [key]
    constructor
    · rintro (⟨h1, h2⟩ | ⟨_, h2⟩)
      · by_cases h3 : p % q < j
        · exact .inl ⟨h3, h2⟩
        · exact .inr ⟨by omega, h2⟩
      · exact (rn_start h2).elim
    · rintro (⟨h1, h2⟩ | ⟨h1, h2⟩)
      · exact .inl ⟨by omega, h2⟩
      · exact .inl ⟨by omega, h2⟩
  rw [key2]
  exact h p hp
/-- All indices: the next size. -/
theorem StJ.fin {k : Nat} {x : Nat → Cx} {L : Rat} {e : Int} {c : Rat} {t q n : Nat} {g : Nat → Nat × Nat} (hq : q = 2 ^ t) (hc : c + 20 ≤ 1024) (h : StJ k x L e c t q n q 0 q g) : SpLev k x L (e + 8) (c + 20) n (t + 1) g := fun p hp => by
  have hq0 : 0 < q := by rw [hq]; exact Nat.two_pow_pos _
  have hm := Nat.mod_lt p hq0
  have e4 : 4 * q = 2 ^ (t + 1 + 1) := by rw [hq, Nat.pow_succ, Nat.pow_succ]; omega
  obtain ⟨a, b⟩ := h p hp
  rw [← e4]
  refine ⟨fun hs => a (.inl ⟨hm, hs⟩), fun hs => ?_⟩
  have hd : ¬ DnJ q q 0 q p := by
    rintro (⟨_, h2⟩ | ⟨h1, _⟩)
    · exact hs h2
    · omega
  -- the block of 2q in a block of 4q that is not the split's
  have b1 := Nat.mod_add_div p (4 * q)
  have b2 := Nat.mod_lt p (show 0 < 4 * q by omega)
  have hsp : Sp (p / (2 * q)) := by
    by_cases hc2 : p % (4 * q) < 2 * q
    · have := (blk_half (q := q) (m := p / (4 * q)) hc2).1
      rw [Nat.add_comm, b1] at this
      rw [this]; exact sp_even _
    · have := (blk_half (q := q) (m := p / (4 * q)) (r := p % (4 * q) - 2 * q) (by omega)).2
      rw [show 4 * q * (p / (4 * q)) + 2 * q + (p % (4 * q) - 2 * q) = p from by omega] at this
      rw [this, sp_odd]; exact hs
  exact ((b hd).1 hsp).mono (by omega) (by grind) hc
end Go.Proofs.Ygctaf
