/-
  Plain Lean: a block turned about its diagonal; mirrored from left to right; from above to below. No Go and no memory here.
-/
import Derived.Test.YtpdggfjpbdidlaaMix
namespace Go.Proofs.Ytpdggfjpbdidlaa

def turnF (B : List Int) (j : Nat) : Int := B.getD (j % 8 * 8 + j / 8) 0
def acrossF (B : List Int) (j : Nat) : Int := B.getD j 0 * (1 - 2 * ((j % 2 : Nat) : Int))
def downF (B : List Int) (j : Nat) : Int := B.getD j 0 * (1 - 2 * ((j / 8 % 2 : Nat) : Int))

theorem wS_mirror : ∀ u x : Fin 8, wS u (7 - x.val) = (1 - 2 * ((u.val % 2 : Nat) : Int)) * wS u x := by decide
theorem turn_sum (B : List Int) (y x : Nat) : sumAt (allF (turnF B)) y x = sumAt B x y := by
  unfold sumAt
  have e : sumN 8 (fun v => wS v y * sumN 8 (fun u => wS u x * (allF (turnF B)).getD (8 * v + u) 0)) = sumN 8 (fun v => sumN 8 (fun u => wS u x * (wS v y * B.getD (8 * u + v) 0))) := by
    apply sumN_congr
    intro v hv
    rw [← sumN_mul]
    apply sumN_congr
    intro u hu
    rw [allF_get _ _ (by omega)]
    unfold turnF
    rw [show (8 * v + u) % 8 * 8 + (8 * v + u) / 8 = 8 * u + v by omega, ← Int.mul_assoc, ← Int.mul_assoc, Int.mul_comm (wS v y)]
  rw [e, sumN_comm]
  apply sumN_congr
  intro u _
  rw [sumN_mul]
theorem across_sum (B : List Int) (y x : Nat) (hx : x < 8) : sumAt (allF (acrossF B)) y x = sumAt B y (7 - x) := by
  unfold sumAt
  apply sumN_congr
  intro v hv
  congr 1
  apply sumN_congr
  intro u hu
  rw [allF_get _ _ (by omega)]
  unfold acrossF
  have := wS_mirror ⟨u, hu⟩ ⟨x, hx⟩
  dsimp only at this
  rw [this, show (8 * v + u) % 2 = u % 2 by omega, Int.mul_comm (B.getD (8 * v + u) 0), ← Int.mul_assoc, Int.mul_comm (wS u x)]
theorem down_sum (B : List Int) (y x : Nat) (hy : y < 8) : sumAt (allF (downF B)) y x = sumAt B (7 - y) x := by
  unfold sumAt
  apply sumN_congr
  intro v hv
  have := wS_mirror ⟨v, hv⟩ ⟨y, hy⟩
  dsimp only at this
  rw [this]
  have e : sumN 8 (fun u => wS u x * (allF (downF B)).getD (8 * v + u) 0) = (1 - 2 * ((v % 2 : Nat) : Int)) * sumN 8 (fun u => wS u x * B.getD (8 * v + u) 0) := by
    rw [← sumN_mul]
    apply sumN_congr
    intro u hu
    rw [allF_get _ _ (by omega)]
    unfold downF
    rw [show (8 * v + u) / 8 % 2 = v % 2 by omega, Int.mul_comm (B.getD (8 * v + u) 0), ← Int.mul_assoc, ← Int.mul_assoc, Int.mul_comm (wS u x)]
  rw [e, ← Int.mul_assoc, Int.mul_comm (wS v y)]

theorem inv_place (xs : List Int) (h : xs.length = 64) (j : Nat) (hj : j < 64) : (invL xs).getD j 0 = rnd (sumAt xs (j / 8) (j % 8)) := by
  have := invL_at xs h (j / 8) (j % 8) (by omega) (by omega)
  rwa [show 8 * (j / 8) + j % 8 = j by omega] at this
theorem turn_inv (B : List Int) (h : B.length = 64) (j : Nat) (hj : j < 64) : (invL (allF (turnF B))).getD j 0 = (invL B).getD (j % 8 * 8 + j / 8) 0 := by
  rw [inv_place _ (allF_len _) j hj, inv_place B h _ (by omega), turn_sum, show (j % 8 * 8 + j / 8) / 8 = j % 8 by omega, show (j % 8 * 8 + j / 8) % 8 = j / 8 by omega]
theorem across_inv (B : List Int) (h : B.length = 64) (j : Nat) (hj : j < 64) : (invL (allF (acrossF B))).getD j 0 = (invL B).getD (j / 8 * 8 + 7 - j % 8) 0 := by
  rw [inv_place _ (allF_len _) j hj, inv_place B h _ (by omega), across_sum _ _ _ (by omega), show (j / 8 * 8 + 7 - j % 8) / 8 = j / 8 by omega, show (j / 8 * 8 + 7 - j % 8) % 8 = 7 - j % 8 by omega]
theorem down_inv (B : List Int) (h : B.length = 64) (j : Nat) (hj : j < 64) : (invL (allF (downF B))).getD j 0 = (invL B).getD ((7 - j / 8) * 8 + j % 8) 0 := by
  rw [inv_place _ (allF_len _) j hj, inv_place B h _ (by omega), down_sum _ _ _ (by omega), show ((7 - j / 8) * 8 + j % 8) / 8 = 7 - j / 8 by omega, show ((7 - j / 8) * 8 + j % 8) % 8 = j % 8 by omega]

/-- No number below -2047. -/
def topF (P : List Int) (j : Nat) : Int := if P.getD j 0 < -2047 then -2047 else P.getD j 0
/-- 64 numbers from -2047 to 2047. -/
def Blk47 (xs : List Int) : Prop := xs.length = 64 ∧ ∀ j, j < 64 → -2047 ≤ xs.getD j 0 ∧ xs.getD j 0 ≤ 2047
theorem blk47_turn {B : List Int} (h : Blk47 B) : Blk47 (allF (turnF B)) := ⟨allF_len _, fun j hj => by rw [allF_get _ j hj]; exact h.2 _ (by omega)⟩
theorem sign_bd {z : Int} (h1 : -2047 ≤ z) (h2 : z ≤ 2047) (m : Nat) : -2047 ≤ z * (1 - 2 * ((m % 2 : Nat) : Int)) ∧ z * (1 - 2 * ((m % 2 : Nat) : Int)) ≤ 2047 := by
  rcases (by omega : m % 2 = 0 ∨ m % 2 = 1) with e | e
  · rw [e]; simp; omega
  · rw [e]; simp; omega
theorem blk47_across {B : List Int} (h : Blk47 B) : Blk47 (allF (acrossF B)) := ⟨allF_len _, fun j hj => by rw [allF_get _ j hj]; exact sign_bd (h.2 j hj).1 (h.2 j hj).2 j⟩
theorem blk47_down {B : List Int} (h : Blk47 B) : Blk47 (allF (downF B)) := ⟨allF_len _, fun j hj => by rw [allF_get _ j hj]; exact sign_bd (h.2 j hj).1 (h.2 j hj).2 (j / 8)⟩

end Go.Proofs.Ytpdggfjpbdidlaa
