/-
  Plain Lean: the reference's sums, number by number, are the sums by rows and columns. No Go and no memory here.
-/
import Derived.Test.YtpdggfjpbdidlaaSums
namespace Go.Proofs.Ytpdggfjpbdidlaa

/-- What number j adds at place k. -/
def addT (xs : List Int) (k j : Nat) : Int := wS (j % 8) (k % 8) * wS (j / 8) (k / 8) * xs.getD j 0
/-- What the first n numbers come to at place k. -/
def sumT (xs : List Int) (k n : Nat) : Int := sumN n (addT xs k)
def refL (xs : List Int) (n : Nat) : List Int := (List.range 64).map (fun k => sumT xs k n)
/-- The same, where the places below k have the next number too. -/
def refM (xs : List Int) (n k : Nat) : List Int := (List.range 64).map (fun j => if j < k then sumT xs j (n + 1) else sumT xs j n)

theorem range_get (f : Nat → Int) (j : Nat) (hj : j < 64) : ((List.range 64).map f).getD j 0 = f j := by
  rw [List.getD_eq_getElem?_getD, List.getElem?_map, List.getElem?_range hj]
  rfl
theorem range_ext (f : Nat → Int) (ys : List Int) (h : ys.length = 64) (hj : ∀ j, j < 64 → ys.getD j 0 = f j) : ys = (List.range 64).map f := by
  apply List.ext_getElem?
  intro j
  by_cases hlt : j < 64
  · have h1 := hj j hlt
    rw [List.getD_eq_getElem?_getD, List.getElem?_eq_getElem (by omega)] at h1
    rw [List.getElem?_eq_getElem (by omega), List.getElem?_map, List.getElem?_range hlt]
    simp only [Option.getD_some] at h1
    rw [h1]
    rfl
  · rw [List.getElem?_eq_none (by omega), List.getElem?_eq_none (by simp; omega)]
theorem refM_len (xs : List Int) (n k : Nat) : (refM xs n k).length = 64 := by simp [refM]
theorem refL_len (xs : List Int) (n : Nat) : (refL xs n).length = 64 := by simp [refL]
theorem refM_zero (xs : List Int) (n : Nat) : refM xs n 0 = refL xs n := by unfold refM refL; simp
theorem refM_all (xs : List Int) (n : Nat) : refM xs n 64 = refL xs (n + 1) := by
  unfold refM refL
  apply List.map_congr_left
  intro j hj
  rw [if_pos (List.mem_range.1 hj)]
theorem refM_get (xs : List Int) (n k : Nat) (hk : k < 64) : (refM xs n k).getD k 0 = sumT xs k n := by
  unfold refM
  rw [range_get _ k hk, if_neg (by omega)]
theorem refM_next (xs : List Int) (n k : Nat) (hk : k < 64) : (refM xs n k).set k (sumT xs k n + addT xs k n) = refM xs n (k + 1) := by
  apply range_ext
  · rw [List.length_set]; exact refM_len xs n k
  · intro j hj
    rw [getDset _ _ _ _ (by rw [refM_len]; exact hk)]
    by_cases e : k = j
    · subst e
      rw [if_pos rfl, if_pos (by omega)]
      rfl
    · rw [if_neg e]
      unfold refM
      rw [range_get _ j hj]
      by_cases h : j < k
      · rw [if_pos h, if_pos (by omega)]
      · rw [if_neg h, if_neg (by omega)]
theorem refL_nought (xs : List Int) (n : Nat) (h : xs.getD n 0 = 0) : refL xs (n + 1) = refL xs n := by
  unfold refL
  apply List.map_congr_left
  intro k _
  show sumN n (addT xs k) + addT xs k n = _
  unfold addT
  rw [h, Int.mul_zero, Int.add_zero]
  rfl
theorem refL_zero (xs : List Int) : refL xs 0 = List.replicate 64 0 := by
  unfold refL
  rw [List.eq_replicate_iff]
  refine ⟨by simp, fun b hb => ?_⟩
  obtain ⟨k, _, rfl⟩ := List.mem_map.1 hb
  rfl

theorem addT_parts (xs : List Int) (k j : Nat) (hk : k < 64) (hj : j < 64) (h1 : -2048 ≤ xs.getD j 0) (h2 : xs.getD j 0 ≤ 2048) :
    (-4194304 ≤ wS (j % 8) (k % 8) * wS (j / 8) (k / 8) ∧ wS (j % 8) (k % 8) * wS (j / 8) (k / 8) ≤ 4194304) ∧ -8589934592 ≤ addT xs k j ∧ addT xs k j ≤ 8589934592 := by
  have a1 := wS_bd ⟨j % 8, by omega⟩ ⟨k % 8, by omega⟩
  have a2 := wS_bd ⟨j / 8, by omega⟩ ⟨k / 8, by omega⟩
  have a3 := mul_bd (wS (j % 8) (k % 8)) (wS (j / 8) (k / 8)) 2048 a1.1 a1.2 a2.1 a2.2
  refine ⟨by omega, ?_⟩
  unfold addT
  rw [Int.mul_comm]
  have a4 := mul_bd (xs.getD j 0) (wS (j % 8) (k % 8) * wS (j / 8) (k / 8)) 4194304 h1 h2 (by omega) (by omega)
  omega
theorem sumT_bd (xs : List Int) (hb : ∀ j, j < 64 → -2048 ≤ xs.getD j 0 ∧ xs.getD j 0 ≤ 2048) (k : Nat) (hk : k < 64) : ∀ n : Nat, n ≤ 64 → -((n : Int) * 8589934592) ≤ sumT xs k n ∧ sumT xs k n ≤ (n : Int) * 8589934592
  | 0, _ => by simp [sumT, sumN]
  | n + 1, hn => by
    have ih := sumT_bd xs hb k hk n (by omega)
    have ht := (addT_parts xs k n hk (by omega) (hb n (by omega)).1 (hb n (by omega)).2).2
    show _ ≤ sumT xs k n + addT xs k n ∧ sumT xs k n + addT xs k n ≤ _
    omega

theorem sumN_eights (f : Nat → Int) : ∀ m : Nat, sumN (8 * m) f = sumN m (fun v => sumN 8 (fun u => f (8 * v + u)))
  | 0 => rfl
  | m + 1 => by
    have ih := sumN_eights f m
    show sumN (8 * m + 8) f = sumN m _ + _
    rw [← ih]
    simp only [sumN, Nat.add_zero]
    omega
theorem sumT_eq (xs : List Int) (k : Nat) : sumT xs k 64 = sumAt xs (k / 8) (k % 8) := by
  unfold sumT sumAt
  rw [show (64 : Nat) = 8 * 8 from rfl, sumN_eights]
  apply sumN_congr
  intro v hv
  rw [← sumN_mul]
  apply sumN_congr
  intro u hu
  unfold addT
  rw [show (8 * v + u) % 8 = u by omega, show (8 * v + u) / 8 = v by omega, Int.mul_comm (wS u (k % 8)), Int.mul_assoc]
theorem refL_inv (xs : List Int) (h : xs.length = 64) : (refL xs 64).map rnd = invL xs := by
  have e : invL xs = (List.range 64).map (fun k => rnd (sumT xs k 64)) := by
    apply range_ext
    · exact invL_len xs h
    · intro j hj
      have := invL_at xs h (j / 8) (j % 8) (by omega) (by omega)
      rw [show 8 * (j / 8) + j % 8 = j by omega] at this
      rw [this, sumT_eq]
  rw [e]
  unfold refL
  rw [List.map_map]
  rfl

end Go.Proofs.Ytpdggfjpbdidlaa
