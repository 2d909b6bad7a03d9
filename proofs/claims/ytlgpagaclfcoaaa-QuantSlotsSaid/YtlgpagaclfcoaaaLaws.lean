/-
  Plain Lean: the laws of what the quantiser's functions answer. No Go and no memory here.
-/
import Derived.Test.YtlgpagaclfcoaaaSpec
namespace Go.Proofs.Ytlgpagaclfcoaaa

/-- What Value answers of any two numbers. -/
def vT (l q : Int) : Int := if -127 ≤ l ∧ l ≤ 127 ∧ 1 ≤ q ∧ q ≤ 31 then vV l q else 0
def vE (l q : Int) : Int := if -127 ≤ l ∧ l ≤ 127 ∧ 1 ≤ q ∧ q ≤ 31 then 0 else 3
/-- What Nearest answers of any two numbers. -/
def nT (v q : Int) : Int := if -2048 ≤ v ∧ v ≤ 2047 ∧ 1 ≤ q ∧ q ≤ 31 then nearL q v 127 else 0
def nE (v q : Int) : Int := if -2048 ≤ v ∧ v ≤ 2047 ∧ 1 ≤ q ∧ q ≤ 31 then 0 else 3

theorem prod_eq (m q : Int) : q * (2 * m + 1) = 2 * (q * m) + q := by
  rw [Int.mul_add, Int.mul_one, Int.mul_left_comm]

theorem vM_odd (m q : Int) : vM m q % 2 = 1 := by
  unfold vM
  rw [prod_eq]
  split <;> omega

theorem vM_pos (m q : Int) (hm0 : 1 ≤ m) (hq0 : 1 ≤ q) : 2 ≤ vM m q := by
  have := Int.mul_le_mul (a := 1) (b := 3) (c := q) (d := 2 * m + 1) hq0 (by omega) (by omega) (by omega)
  unfold vM
  split <;> omega

theorem vM_next (m q : Int) : vM (m + 1) q = vM m q + 2 * q := by
  have e : q * (m + 1) = q * m + q := by rw [Int.mul_add, Int.mul_one]
  unfold vM
  rw [prod_eq, prod_eq, e]
  split <;> omega

theorem vM_up (m q : Int) (hm : 1 ≤ m) : vM m q < vM m (q + 1) := by
  have e : (q + 1) * m = q * m + m := by rw [Int.add_mul, Int.one_mul]
  unfold vM
  rw [prod_eq, prod_eq, e]
  split <;> split <;> omega

/-- The values of a level above 0 and of its other side. -/
theorem vV_both (m q : Int) (h1 : 1 ≤ m) (h3 : 1 ≤ q) : ∃ X : Int, 2 ≤ X ∧ X % 2 = 1 ∧ X = vM m q ∧ vV m q = min X 2047 ∧ vV (-m) q = max (-X) (-2048) := by
  refine ⟨vM m q, vM_pos m q h1 h3, vM_odd m q, rfl, ?_, ?_⟩
  · unfold vV; rw [if_pos (by omega)]
  · unfold vV; rw [if_neg (by omega), if_pos (by omega), Int.neg_neg]

theorem vV_zero (q : Int) : vV 0 q = 0 := by simp [vV]

theorem far_nearL (q v : Int) (h3 : 1 ≤ q) : ∀ n : Nat, farS (nearL q v n) q v ≤ farS 0 q v
  | 0 => by simp [nearL]
  | n + 1 => by
    have ih := far_nearL q v h3 n
    rw [nearL_succ]
    unfold stepN
    split
    · split at * <;> omega
    · split at * <;> omega

theorem near_same (q v : Int) (h3 : 1 ≤ q) : ∀ n : Nat, nearR q v n = nearL q v n
  | 0 => rfl
  | n + 1 => by
    have ih := near_same q v h3 n
    have hz := far_nearL q v h3 n
    rw [nearL_succ, nearR_succ, ih]
    obtain ⟨X, hX1, hX2, _, hp, hn⟩ := vV_both ((n : Int) + 1) q (by omega) h3
    have f0 : farS 0 q v = max (0 - v) (v - 0) := by unfold farS; rw [vV_zero]
    have f1 : farS ((n : Int) + 1) q v = max (min X 2047 - v) (v - min X 2047) := by unfold farS; rw [hp]
    have f2 : farS (-((n : Int) + 1)) q v = max (max (-X) (-2048) - v) (v - max (-X) (-2048)) := by unfold farS; rw [hn]
    by_cases c1 : farS ((n : Int) + 1) q v < farS (nearL q v n) q v
    · by_cases c2 : farS (-((n : Int) + 1)) q v < farS (nearL q v n) q v
      · have e1 : stepN q v (nearL q v n) ((n : Int) + 1) = (n : Int) + 1 := by unfold stepN; rw [if_pos c1]
        have e2 : stepN q v (nearL q v n) (-((n : Int) + 1)) = -((n : Int) + 1) := by unfold stepN; rw [if_pos c2]
        rw [e1, e2]
        unfold stepN
        by_cases c3 : farS ((n : Int) + 1) q v < farS (-((n : Int) + 1)) q v
        · rw [if_pos c3, if_neg (by omega)]
        · rw [if_neg c3, if_pos (by omega)]
      · have e1 : stepN q v (nearL q v n) ((n : Int) + 1) = (n : Int) + 1 := by unfold stepN; rw [if_pos c1]
        have e2 : stepN q v (nearL q v n) (-((n : Int) + 1)) = nearL q v n := by unfold stepN; rw [if_neg c2]
        rw [e1, e2]
        unfold stepN
        rw [if_pos c1, if_neg (by omega)]
    · have e1 : stepN q v (nearL q v n) ((n : Int) + 1) = nearL q v n := by unfold stepN; rw [if_neg c1]
      rw [e1]
      by_cases c2 : farS (-((n : Int) + 1)) q v < farS (nearL q v n) q v
      · have e2 : stepN q v (nearL q v n) (-((n : Int) + 1)) = -((n : Int) + 1) := by unfold stepN; rw [if_pos c2]
        rw [e2]
        unfold stepN
        rw [if_neg (by omega)]
      · have e2 : stepN q v (nearL q v n) (-((n : Int) + 1)) = nearL q v n := by unfold stepN; rw [if_neg c2]
        rw [e2, e1]

/-- No level is nearer; of those that are as near none is nearer to 0. -/
theorem near_best (q v : Int) : ∀ n : Nat, ∀ l : Int, -(n : Int) ≤ l → l ≤ (n : Int) →
    farS (nearL q v n) q v < farS l q v ∨ (farS (nearL q v n) q v = farS l q v ∧ max (nearL q v n) (-(nearL q v n)) ≤ max l (-l))
  | 0, l, h1, h2 => by
    obtain rfl : l = 0 := by omega
    right
    simp [nearL]
  | n + 1, l, h1, h2 => by
    have hb := nearL_bd q v n
    have ih := near_best q v n
    have ihb := near_best q v n (nearL q v n) hb.1 hb.2
    rw [nearL_succ]
    have hs : ∀ b x : Int, farS (stepN q v b x) q v ≤ farS b q v ∧ farS (stepN q v b x) q v ≤ farS x q v ∧ (stepN q v b x = b ∨ (stepN q v b x = x ∧ farS x q v < farS b q v)) := by
      intro b x
      unfold stepN
      split
      · exact ⟨by omega, by omega, .inr ⟨rfl, by assumption⟩⟩
      · exact ⟨by omega, by omega, .inl rfl⟩
    have s1 := hs (nearL q v n) ((n : Int) + 1)
    have s2 := hs (stepN q v (nearL q v n) ((n : Int) + 1)) (-((n : Int) + 1))
    generalize stepN q v (nearL q v n) ((n : Int) + 1) = b1 at s1 s2 ⊢
    generalize stepN q v b1 (-((n : Int) + 1)) = b2 at s2 ⊢
    obtain ⟨s1a, s1b, s1c⟩ := s1
    obtain ⟨s2a, s2b, s2c⟩ := s2
    rcases (by omega : l = (n : Int) + 1 ∨ l = -((n : Int) + 1) ∨ (-(n : Int) ≤ l ∧ l ≤ (n : Int))) with rfl | rfl | ⟨h3, h4⟩
    · rcases s2c with rfl | ⟨rfl, hlt⟩
      · rcases s1c with rfl | ⟨rfl, hlt⟩ <;> omega
      · omega
    · rcases s2c with rfl | ⟨rfl, hlt⟩
      · rcases s1c with rfl | ⟨rfl, hlt⟩ <;> omega
      · omega
    · have := ih l h3 h4
      rcases s2c with rfl | ⟨rfl, hlt⟩
      · rcases s1c with rfl | ⟨rfl, hlt⟩ <;> omega
      · omega

end Go.Proofs.Ytlgpagaclfcoaaa
