/-
  The walk of lines: the sums of all rows of a block, or of all columns. Conditions: those that each theorem names.
-/
import Derived.Test.YtpdggfjpbdidlaaWalkR
namespace Go.Proofs.Ytpdggfjpbdidlaa
open Go.RowKit

/-- The first k numbers of a line. -/
def partL (b s : Nat) (ys : List Int) (i k : Nat) : List Int := (List.range k).map (fun j => ys.getD (0 + i * b + j * s) 0)
theorem partL_len (b s : Nat) (ys : List Int) (i k : Nat) : (partL b s ys i k).length = k := by simp [partL]
theorem partL_succ (b s : Nat) (ys : List Int) (i k : Nat) : partL b s ys i (k + 1) = partL b s ys i k ++ [ys.getD (0 + i * b + k * s) 0] := by simp [partL, List.range_succ]
theorem partL_all (b s : Nat) (ys : List Int) (i : Nat) : partL b s ys i 8 = getLine b s ys i := rfl

/-- The block that lines fills: the first i lines are put. -/
def outL (b s : Nat) (ys : List Int) : Nat → List Int
  | 0 => List.replicate 64 0
  | i + 1 => putL (0 + i * b) s (lineL (getLine b s ys i)) (List.finRange 8) (outL b s ys i)
theorem outL_len (b s : Nat) (ys : List Int) : ∀ i, (outL b s ys i).length = 64
  | 0 => by simp [outL]
  | i + 1 => by simp only [outL]; rw [putL_len]; exact outL_len b s ys i
theorem outL_at (b s : Nat) (h : Sep b s) (xs : List Int) : ∀ m : Nat, m ≤ 8 → ∀ i k : Nat, i < m → k < 8 → (outL b s xs m).getD (0 + i * b + k * s) 0 = lineP (getLine b s xs i) k 8
  | 0, _ => fun i k hi _ => by omega
  | m + 1, hm => fun i k hi hk => by
    have hb : ∀ j : Fin 8, 0 + m * b + j.val * s < (outL b s xs m).length := fun j => by rw [outL_len]; exact h.2.2 m j.val (by omega) j.isLt
    simp only [outL]
    by_cases him : i = m
    · subst him
      have := putL_get (0 + i * b) s h.1 (lineL (getLine b s xs i)) ⟨k, hk⟩ (List.finRange 8) _ hb
      rw [if_pos (List.mem_finRange _)] at this
      rw [this, lineL_get _ _ hk]
    · rw [putL_far _ _ _ _ (fun k' e' => him (h.2.1 i k m k'.val (by omega) hk (by omega) k'.isLt e'.symm)) _ _ hb]
      exact outL_at b s h xs m (by omega) i k (by omega) hk
theorem outL_all81 (xs : List Int) (hx : xs.length = 64) : outL 8 1 xs 8 = allL 8 1 xs := by
  rw [allF_of _ (outL_len 8 1 xs 8), allF_of (allL 8 1 xs) (allL_len 8 1 sep81 xs hx)]
  unfold allF
  apply List.map_congr_left
  intro j hj
  have hj := List.mem_range.1 hj
  have e1 := outL_at 8 1 sep81 xs 8 (by omega) (j / 8) (j % 8) (by omega) (by omega)
  have e2 := allL_at 8 1 sep81 xs hx (j / 8) (j % 8) (by omega) (by omega)
  rw [at81 j hj] at e1 e2
  rw [e1, e2]
theorem outL_all18 (xs : List Int) (hx : xs.length = 64) : outL 1 8 xs 8 = allL 1 8 xs := by
  rw [allF_of _ (outL_len 1 8 xs 8), allF_of (allL 1 8 xs) (allL_len 1 8 sep18 xs hx)]
  unfold allF
  apply List.map_congr_left
  intro j hj
  have hj := List.mem_range.1 hj
  have e1 := outL_at 1 8 sep18 xs 8 (by omega) (j % 8) (j / 8) (by omega) (by omega)
  have e2 := allL_at 1 8 sep18 xs hx (j % 8) (j / 8) (by omega) (by omega)
  rw [at18 j hj] at e1 e2
  rw [e1, e2]

end Go.Proofs.Ytpdggfjpbdidlaa
