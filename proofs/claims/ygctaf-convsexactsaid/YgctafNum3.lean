/-
  THE COMPUTED PASSES AGAINST THE IDEAL PIPELINE, IN ENERGY.
-/
import Derived.Test.YgctafNum2
import Derived.Test.YgctafRev
import Derived.Test.YgctafW10
namespace Go.Proofs.Ygctaf

theorem pair_err {x y w : Nat × Nat} {om a b : Cx} {e : Int} (hx : Bd e x) (hy : Bd e y) (hw : Bd 1 w) (h0 : 0 ≤ e) (h1 : e ≤ 900) (hr : NearRoot (cv w) om) :
    ((cv (cadd x (cmul y w))).sub (a.add (om.mul b))).nsq + ((cv (csub x (cmul y w))).sub (a.sub (om.mul b))).nsq ≤
      (17/8 + 11424 * (EE * EE)) * (((cv x).sub a).nsq + ((cv y).sub b).nsq) + 11424 * (EE * EE) * (a.nsq + b.nsq) + 9010 * (TT * TT) := by
  have bf := butterfly hx hy hw h0 h1 hr
  have s1 := Cx.nsq_add17 (((cv x).sub a).add (om.mul ((cv y).sub b))) ((cv (cadd x (cmul y w))).sub ((cv x).add (om.mul (cv y))))
  have e1 : (((cv x).sub a).add (om.mul ((cv y).sub b))).add ((cv (cadd x (cmul y w))).sub ((cv x).add (om.mul (cv y)))) = (cv (cadd x (cmul y w))).sub (a.add (om.mul b)) := by
    rw [Cx.mul_sub]; exact Cx.eq (by unfold Cx.add Cx.sub; simp only; grind) (by unfold Cx.add Cx.sub; simp only; grind)
  rw [e1] at s1
  have s2 := Cx.nsq_add17 (((cv x).sub a).sub (om.mul ((cv y).sub b))) ((cv (csub x (cmul y w))).sub ((cv x).sub (om.mul (cv y))))
  have e2 : (((cv x).sub a).sub (om.mul ((cv y).sub b))).add ((cv (csub x (cmul y w))).sub ((cv x).sub (om.mul (cv y)))) = (cv (csub x (cmul y w))).sub (a.sub (om.mul b)) := by
    rw [Cx.mul_sub]; exact Cx.eq (by unfold Cx.add Cx.sub; simp only; grind) (by unfold Cx.add Cx.sub; simp only; grind)
  rw [e2] at s2
  have pm := Cx.nsq_pm ((cv x).sub a) (om.mul ((cv y).sub b))
  rw [Cx.nsq_mul, hr.unit] at pm
  have na := Cx.nsq_add2 a ((cv x).sub a)
  have e3 : a.add ((cv x).sub a) = cv x := Cx.eq (by unfold Cx.add Cx.sub; simp only; grind) (by unfold Cx.add Cx.sub; simp only; grind)
  rw [e3] at na
  have nb := Cx.nsq_add2 b ((cv y).sub b)
  have e4 : b.add ((cv y).sub b) = cv y := Cx.eq (by unfold Cx.add Cx.sub; simp only; grind) (by unfold Cx.add Cx.sub; simp only; grind)
  rw [e4] at nb
  have k1 := Rat.mul_le_mul_of_nonneg_left na EE2_nonneg
  have k2 := Rat.mul_le_mul_of_nonneg_left nb EE2_nonneg
  clear e1 e2 e3 e4 hr hx hy hw na nb
  generalize ((cv x).sub a).nsq = DA at *
  generalize ((cv y).sub b).nsq = DB at *
  generalize (cv x).nsq = NX at *
  generalize (cv y).nsq = NY at *
  generalize a.nsq = A at *
  generalize b.nsq = B at *
  generalize EE * EE = E2 at *
  generalize TT * TT = T2 at *
  generalize ((cv (cadd x (cmul y w))).sub (a.add (om.mul b))).nsq = G1 at *
  generalize ((cv (csub x (cmul y w))).sub (a.sub (om.mul b))).nsq = G2 at *
  generalize ((cv (cadd x (cmul y w))).sub ((cv x).add (om.mul (cv y)))).nsq = F1 at *
  generalize ((cv (csub x (cmul y w))).sub ((cv x).sub (om.mul (cv y)))).nsq = F2 at *
  generalize (((cv x).sub a).add (om.mul ((cv y).sub b))).nsq = H1 at *
  generalize (((cv x).sub a).sub (om.mul ((cv y).sub b))).nsq = H2 at *
  grind

/-! ### The passes, block by block -/
theorem stagesF_low (k : Nat) (T f : Nat → Nat × Nat) (t s j : Nat) (hj : j < 2 ^ t) :
    stagesF k T f (t + 1) (s * 2 ^ (t + 1) + j) = cadd (stagesF k T f t (2 * s * 2 ^ t + j)) (cmul (stagesF k T f t ((2 * s + 1) * 2 ^ t + j)) (T (j * 2 ^ (k - (t + 1))))) := by
  have e : s * 2 ^ (t + 1) = 2 * 2 ^ t * s := by rw [Nat.pow_succ, Nat.mul_comm, Nat.mul_comm (2 ^ t) 2]
  have e2 : 2 * s * 2 ^ t = 2 * 2 ^ t * s := by rw [Nat.mul_right_comm]
  have hm : (s * 2 ^ (t + 1) + j) % (2 * 2 ^ t) = j := by rw [e, Nat.mul_add_mod, Nat.mod_eq_of_lt (by omega)]
  show stageF (2 ^ t) (2 ^ (k - (t + 1))) T (stagesF k T f t) (s * 2 ^ (t + 1) + j) = _
  unfold stageF
  rw [hm, if_pos hj, show s * 2 ^ (t + 1) + j + 2 ^ t = (2 * s + 1) * 2 ^ t + j from by rw [Nat.add_mul, e, e2]; omega, e, e2]
theorem stagesF_high (k : Nat) (T f : Nat → Nat × Nat) (t s j : Nat) (hj : j < 2 ^ t) :
    stagesF k T f (t + 1) (s * 2 ^ (t + 1) + (2 ^ t + j)) = csub (stagesF k T f t (2 * s * 2 ^ t + j)) (cmul (stagesF k T f t ((2 * s + 1) * 2 ^ t + j)) (T (j * 2 ^ (k - (t + 1))))) := by
  have e : s * 2 ^ (t + 1) = 2 * 2 ^ t * s := by rw [Nat.pow_succ, Nat.mul_comm, Nat.mul_comm (2 ^ t) 2]
  have e2 : 2 * s * 2 ^ t = 2 * 2 ^ t * s := by rw [Nat.mul_right_comm]
  have hm : (s * 2 ^ (t + 1) + (2 ^ t + j)) % (2 * 2 ^ t) = 2 ^ t + j := by rw [e, Nat.mul_add_mod, Nat.mod_eq_of_lt (by omega)]
  show stageF (2 ^ t) (2 ^ (k - (t + 1))) T (stagesF k T f t) (s * 2 ^ (t + 1) + (2 ^ t + j)) = _
  unfold stageF
  rw [hm, if_neg (by omega), show s * 2 ^ (t + 1) + (2 ^ t + j) - 2 ^ t = 2 * s * 2 ^ t + j from by rw [e, e2]; omega, show s * 2 ^ (t + 1) + (2 ^ t + j) = (2 * s + 1) * 2 ^ t + j from by rw [Nat.add_mul, e, e2]; omega, Nat.add_sub_cancel_left]

/-- The part of the input that comes to block s of 2^t points. -/
def part (k : Nat) (x : Nat → Cx) (t s : Nat) : Nat → Cx := fun i => x (revN (k - t) s + i * 2 ^ (k - t))
theorem part_even (k : Nat) (x : Nat → Cx) (t s : Nat) (ht : t + 1 ≤ k) : (fun i => part k x (t + 1) s (2 * i)) = part k x t (2 * s) := by
  funext i; unfold part
  obtain ⟨q, hq⟩ : ∃ q, k - (t + 1) = q := ⟨_, rfl⟩
  have hq2 : k - t = q + 1 := by omega
  rw [hq, hq2]
  congr 1
  show revN q s + 2 * i * 2 ^ q = (2 * s) % 2 * 2 ^ q + revN q (2 * s / 2) + i * 2 ^ (q + 1)
  rw [show (2 * s) % 2 = 0 from by omega, show 2 * s / 2 = s from by omega, Nat.pow_succ]
  have : 2 * i * 2 ^ q = i * (2 ^ q * 2) := by rw [Nat.mul_comm 2 i, Nat.mul_assoc, Nat.mul_comm 2]
  omega
theorem part_odd (k : Nat) (x : Nat → Cx) (t s : Nat) (ht : t + 1 ≤ k) : (fun i => part k x (t + 1) s (2 * i + 1)) = part k x t (2 * s + 1) := by
  funext i; unfold part
  obtain ⟨q, hq⟩ : ∃ q, k - (t + 1) = q := ⟨_, rfl⟩
  have hq2 : k - t = q + 1 := by omega
  rw [hq, hq2]
  congr 1
  show revN q s + (2 * i + 1) * 2 ^ q = (2 * s + 1) % 2 * 2 ^ q + revN q ((2 * s + 1) / 2) + i * 2 ^ (q + 1)
  rw [show (2 * s + 1) % 2 = 1 from by omega, show (2 * s + 1) / 2 = s from by omega, Nat.pow_succ, Nat.add_mul]
  have : 2 * i * 2 ^ q = i * (2 ^ q * 2) := by rw [Nat.mul_comm 2 i, Nat.mul_assoc, Nat.mul_comm 2]
  omega

/-- The growth of the error, in units of eps^2. -/
def an : Nat → Nat
  | 0 => 0
  | t + 1 => 9 * an t / 8 + 5715
theorem an_11 : ∀ t, t ≤ 11 → an t ≤ 131072 := by
  intro t ht
  have h : ∀ t : Fin 12, an t.1 ≤ 131072 := by decide +kernel
  exact h ⟨t, by omega⟩
theorem an_step (t : Nat) : 9/8 * (an t : Rat) + 5713 ≤ (an (t + 1) : Rat) := by
  have h : 9 * an t + 8 * 5713 ≤ 8 * an (t + 1) := by show 9 * an t + 8 * 5713 ≤ 8 * (9 * an t / 8 + 5715); omega
  have h2 := Rat.natCast_le_natCast.2 h
  simp only [Rat.natCast_add, Rat.natCast_mul, Rat.natCast_ofNat] at h2
  grind
/-- The floor under the energy, a point. -/
def MU : Rat := p2 (-2030)
theorem MU_pos : 0 < MU := p2_pos _
theorem TT_MU : 9010 * (TT * TT) ≤ EE * EE * MU := by
  unfold TT MU EE
  rw [← p2_add, ← p2_add, ← p2_add]
  have h1 : (9010 : Rat) ≤ p2 14 := by
    have := p2_nat 14
    rw [show ((14 : Nat) : Int) = 14 from rfl] at this
    rw [this]
    exact Rat.natCast_le_natCast.2 (show 9010 ≤ 2 ^ 14 by decide)
  have h2 := Rat.mul_le_mul_of_nonneg_right h1 (p2_nonneg (-1075 + -1075))
  rw [← p2_add] at h2
  exact Rat.le_trans h2 (p2_le (by decide))
def en (k : Nat) (x : Nat → Cx) (t s : Nat) : Rat := S2 (2 ^ t) (part k x t s) + ((2 ^ t : Nat) : Rat) * MU
theorem en_split (k : Nat) (x : Nat → Cx) (t s : Nat) (ht : t + 1 ≤ k) : en k x (t + 1) s = en k x t (2 * s) + en k x t (2 * s + 1) := by
  unfold en
  rw [S2_evenodd, part_even k x t s ht, part_odd k x t s ht, show (2 : Nat) ^ (t + 1) = 2 ^ t + 2 ^ t from by rw [Nat.pow_succ]; omega, Rat.natCast_add]; grind
theorem en_ge (k : Nat) (x : Nat → Cx) (t s : Nat) : ((2 ^ t : Nat) : Rat) * MU ≤ en k x t s ∧ S2 (2 ^ t) (part k x t s) ≤ en k x t s := by
  unfold en
  have h1 := S2_nonneg (2 ^ t) (part k x t s)
  have h2 : 0 ≤ ((2 ^ t : Nat) : Rat) * MU := Rat.mul_nonneg Rat.natCast_nonneg (Rat.le_of_lt MU_pos)
  constructor <;> grind

theorem final_step (P e eA eB rA rB sA sB a a' E2 T2 M : Rat) (hP : 1 ≤ P) (he : e = eA + eB) (hrA : rA ≤ a * E2 * (P * eA)) (hrB : rB ≤ a * E2 * (P * eB)) (hsA : sA ≤ P * eA) (hsB : sB ≤ P * eB)
    (ha0 : 0 ≤ a) (hE0 : 0 ≤ E2) (hE : 11424 * E2 ≤ 1/8) (heA : 0 ≤ eA) (heB : 0 ≤ eB) (hstep : 9/8 * a + 5713 ≤ a') (hT : 9010 * T2 * M ≤ E2 * e) :
    (17/8 + 11424 * E2) * (rA + rB) + 11424 * E2 * (sA + sB) + 9010 * T2 * M ≤ a' * E2 * (2 * P * e) := by
  subst he
  have hPe : 0 ≤ P * (eA + eB) := Rat.mul_nonneg (by grind) (by grind)
  have h1 : rA + rB ≤ a * E2 * (P * (eA + eB)) := by
    have : a * E2 * (P * (eA + eB)) = a * E2 * (P * eA) + a * E2 * (P * eB) := by grind
    rw [this]; grind
  have h2 : sA + sB ≤ P * (eA + eB) := by
    have : P * (eA + eB) = P * eA + P * eB := by grind
    rw [this]; grind
  have h3 := Rat.mul_le_mul_of_nonneg_left h1 (show 0 ≤ 17/8 + 11424 * E2 by grind)
  have h4 := Rat.mul_le_mul_of_nonneg_left h2 (show 0 ≤ 11424 * E2 by grind)
  have hX : 0 ≤ E2 * (P * (eA + eB)) := Rat.mul_nonneg hE0 hPe
  have hae : 0 ≤ a * (E2 * (P * (eA + eB))) := Rat.mul_nonneg ha0 hX
  have h5 := Rat.mul_le_mul_of_nonneg_right hE hae
  have h6 := Rat.mul_le_mul_of_nonneg_right hstep hX
  have h7 : E2 * (eA + eB) ≤ E2 * (P * (eA + eB)) := by
    have := Rat.mul_le_mul_of_nonneg_right hP (show 0 ≤ eA + eB by grind)
    rw [Rat.one_mul] at this
    exact Rat.mul_le_mul_of_nonneg_left this hE0
  have e1 : a' * E2 * (2 * P * (eA + eB)) = 2 * (a' * (E2 * (P * (eA + eB)))) := by grind
  have e2 : (17/8 + 11424 * E2) * (a * E2 * (P * (eA + eB))) = 17/8 * (a * (E2 * (P * (eA + eB)))) + 11424 * E2 * (a * (E2 * (P * (eA + eB)))) := by grind
  have e3 : 11424 * E2 * (P * (eA + eB)) = 11424 * (E2 * (P * (eA + eB))) := by grind
  rw [e1]
  rw [e2] at h3
  rw [e3] at h4
  have e4 : (9/8 * a + 5713) * (E2 * (P * (eA + eB))) = 9/8 * (a * (E2 * (P * (eA + eB)))) + 5713 * (E2 * (P * (eA + eB))) := by grind
  rw [e4] at h6
  clear e1 e2 e3 e4 h1 h2 hrA hrB hsA hsB
  generalize E2 * (P * (eA + eB)) = X at *
  generalize a * X = Y at *
  generalize (17/8 + 11424 * E2) * (rA + rB) = Z1 at *
  generalize 11424 * E2 * (sA + sB) = Z2 at *
  generalize 9010 * T2 * M = Z3 at *
  generalize E2 * (eA + eB) = Z4 at *
  generalize 11424 * E2 * Y = Z5 at *
  generalize a' * X = Z6 at *
  grind

theorem p2_nat_ge (t : Nat) : 1 ≤ p2 (t : Int) := by rw [← p2_zero]; exact p2_le (by omega)
theorem EE_11424 : 11424 * (EE * EE) ≤ 1/8 := by have := EE2; grind

theorem stages_err {k : Nat} {T f : Nat → Nat × Nat} {om : Nat → Cx} {e : Int} (hk1 : 1 ≤ k) (hk : k ≤ 11) (h0 : 0 ≤ e) (h1 : e ≤ 800)
    (hT : ∀ i, i < 2 ^ (k - 1) → Bd 1 (T i)) (hF : ∀ i, i < 2 ^ k → Bd e (f i)) (hu : ∀ m, (om m).nsq = 1) (hr : ∀ j, j < 2 ^ (k - 1) → NearRoot (cv (T j)) (om j)) :
    ∀ t, t ≤ k → ∀ s, s < 2 ^ (k - t) →
      S2 (2 ^ t) (fun j => (cv (stagesF k T (fun a => f (revN k a)) t (s * 2 ^ t + j))).sub (pip om t (2 ^ (k - t)) (part k (fun i => cv (f i)) t s) j)) ≤
        (an t : Rat) * (EE * EE) * (p2 t * en k (fun i => cv (f i)) t s) := by
  have hkk : 2 ^ k = 2 * 2 ^ (k - 1) := by rw [← Nat.pow_succ']; congr 1; omega
  have hbd := stagesF_bd (T := T) (f := fun a => f (revN k a)) hk h0 h1 hkk hT (fun i hi => hF _ (revN_lt k i))
  intro t
  induction t with
  | zero =>
    intro _ s hs
    have : S2 (2 ^ 0) (fun j => (cv (stagesF k T (fun a => f (revN k a)) 0 (s * 2 ^ 0 + j))).sub (pip om 0 (2 ^ (k - 0)) (part k (fun i => cv (f i)) 0 s) j)) = 0 := by
      show 0 + ((cv (f (revN k (s * 1 + 0)))).sub (cv (f (revN k s + 0 * 2 ^ k)))).nsq = 0
      rw [Nat.mul_one, Nat.add_zero, Nat.zero_mul, Nat.add_zero]
      unfold Cx.nsq Cx.sub; simp only; grind
    rw [this]
    refine Rat.mul_nonneg (Rat.mul_nonneg Rat.natCast_nonneg EE2_nonneg) (Rat.mul_nonneg (p2_nonneg _) ?_)
    exact Rat.le_trans (S2_nonneg _ _) (en_ge k _ 0 s).2
  | succ t ih =>
    intro ht s hs
    have hst : 2 ^ (k - t) = 2 * 2 ^ (k - (t + 1)) := by rw [← Nat.pow_succ']; congr 1; omega
    have ihA := ih (by omega) (2 * s) (by omega)
    have ihB := ih (by omega) (2 * s + 1) (by omega)
    have hfull : 2 ^ (k - (t + 1)) * 2 ^ (t + 1) = 2 ^ k := by rw [← Nat.pow_add]; congr 1; omega
    have hsk : s * 2 ^ (t + 1) + 2 ^ (t + 1) ≤ 2 ^ k := by
      have := Nat.mul_le_mul_right (2 ^ (t + 1)) (show s + 1 ≤ 2 ^ (k - (t + 1)) from hs)
      rw [Nat.add_mul, Nat.one_mul, hfull] at this; exact this
    have hpt : 2 ^ (t + 1) = 2 * 2 ^ t := by rw [Nat.pow_succ, Nat.mul_comm]
    have e2 : 2 * s * 2 ^ t = s * 2 ^ (t + 1) := by rw [hpt, Nat.mul_comm 2 s, Nat.mul_assoc]
    have e3 : (2 * s + 1) * 2 ^ t = s * 2 ^ (t + 1) + 2 ^ t := by rw [Nat.add_mul, e2, Nat.one_mul]
    have hidx : ∀ j, j < 2 ^ t → j * 2 ^ (k - (t + 1)) < 2 ^ (k - 1) := fun j hj => by
      have a := Nat.mul_lt_mul_of_pos_right hj (Nat.two_pow_pos (k - (t + 1)))
      rw [← Nat.pow_add, show t + (k - (t + 1)) = k - 1 from by omega] at a; exact a
    rw [S2_halves]
    have hpe := part_even k (fun i => cv (f i)) t s ht
    have hpo := part_odd k (fun i => cv (f i)) t s ht
    have step : sumR (2 ^ t) (fun j => ((cv (stagesF k T (fun a => f (revN k a)) (t + 1) (s * 2 ^ (t + 1) + j))).sub (pip om (t + 1) (2 ^ (k - (t + 1))) (part k (fun i => cv (f i)) (t + 1) s) j)).nsq +
          ((cv (stagesF k T (fun a => f (revN k a)) (t + 1) (s * 2 ^ (t + 1) + (2 ^ t + j)))).sub (pip om (t + 1) (2 ^ (k - (t + 1))) (part k (fun i => cv (f i)) (t + 1) s) (2 ^ t + j))).nsq) ≤
        sumR (2 ^ t) (fun j => (17/8 + 11424 * (EE * EE)) * (((cv (stagesF k T (fun a => f (revN k a)) t (2 * s * 2 ^ t + j))).sub (pip om t (2 ^ (k - t)) (part k (fun i => cv (f i)) t (2 * s)) j)).nsq +
            ((cv (stagesF k T (fun a => f (revN k a)) t ((2 * s + 1) * 2 ^ t + j))).sub (pip om t (2 ^ (k - t)) (part k (fun i => cv (f i)) t (2 * s + 1)) j)).nsq) +
          11424 * (EE * EE) * ((pip om t (2 ^ (k - t)) (part k (fun i => cv (f i)) t (2 * s)) j).nsq + (pip om t (2 ^ (k - t)) (part k (fun i => cv (f i)) t (2 * s + 1)) j).nsq) + 9010 * (TT * TT)) := by
      refine sumR_le fun j hj => ?_
      rw [stagesF_low k T _ t s j hj, stagesF_high k T _ t s j hj, pip_low om t _ _ j hj, pip_high, ← hst, hpe, hpo]
      exact pair_err (hbd t (by omega) _ (by omega)) (hbd t (by omega) _ (by omega)) (hT _ (hidx j hj)) (by omega) (by omega) (hr _ (hidx j hj))
    refine Rat.le_trans step ?_
    rw [sumR_add, sumR_add, sumR_mul, sumR_mul, sumR_add, sumR_add, sumR_const]
    have nA := pip_energy om hu t (2 ^ (k - t)) (part k (fun i => cv (f i)) t (2 * s))
    have nB := pip_energy om hu t (2 ^ (k - t)) (part k (fun i => cv (f i)) t (2 * s + 1))
    have gA := en_ge k (fun i => cv (f i)) t (2 * s)
    have gB := en_ge k (fun i => cv (f i)) t (2 * s + 1)
    have hp := p2_nat_ge t
    have hsplit := en_split k (fun i => cv (f i)) t s ht
    unfold S2 at ihA ihB nA nB
    have hm : ((2 ^ t : Nat) : Rat) * (9010 * (TT * TT)) = 9010 * (TT * TT) * ((2 ^ t : Nat) : Rat) := Rat.mul_comm _ _
    rw [hm, show ((t + 1 : Nat) : Int) = (t : Int) + 1 from by omega, p2_succ]
    have posA : 0 ≤ en k (fun i => cv (f i)) t (2 * s) := Rat.le_trans (S2_nonneg _ _) gA.2
    have posB : 0 ≤ en k (fun i => cv (f i)) t (2 * s + 1) := Rat.le_trans (S2_nonneg _ _) gB.2
    refine final_step (p2 t) _ _ _ _ _ _ _ (an t : Rat) _ _ _ _ hp hsplit ihA ihB ?_ ?_ Rat.natCast_nonneg EE2_nonneg EE_11424 posA posB (an_step t) ?_
    · rw [nA]; exact Rat.mul_le_mul_of_nonneg_left gA.2 (p2_nonneg _)
    · rw [nB]; exact Rat.mul_le_mul_of_nonneg_left gB.2 (p2_nonneg _)
    · rw [hsplit]
      have a1 := Rat.mul_le_mul_of_nonneg_right TT_MU (show (0 : Rat) ≤ ((2 ^ t : Nat) : Rat) from Rat.natCast_nonneg)
      have a2 := Rat.mul_le_mul_of_nonneg_left gA.1 EE2_nonneg
      have a3 := Rat.mul_nonneg EE2_nonneg posB
      have e4 : EE * EE * MU * ((2 ^ t : Nat) : Rat) = EE * EE * (((2 ^ t : Nat) : Rat) * MU) := by grind
      rw [e4] at a1
      rw [Rat.mul_add]
      grind

end Go.Proofs.Ygctaf
