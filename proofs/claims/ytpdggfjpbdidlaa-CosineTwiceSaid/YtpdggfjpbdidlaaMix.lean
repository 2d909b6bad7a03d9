/-
  Plain Lean: lists of 64 numbers that are turned place by place; sums of blocks. No Go and no memory here.
-/
import Derived.Test.YtpdggfjpbdidlaaRef
namespace Go.Proofs.Ytpdggfjpbdidlaa

/-- The numbers of f below k, and of g from there on. -/
def mixL (f g : Nat → Int) (k : Nat) : List Int := (List.range 64).map (fun j => if j < k then f j else g j)
def allF (f : Nat → Int) : List Int := (List.range 64).map f
theorem allF_len (f : Nat → Int) : (allF f).length = 64 := by simp [allF]
theorem allF_get (f : Nat → Int) (j : Nat) (hj : j < 64) : (allF f).getD j 0 = f j := range_get f j hj
theorem allF_of (ys : List Int) (h : ys.length = 64) : ys = allF (fun j => ys.getD j 0) := range_ext _ ys h (fun _ _ => rfl)
theorem mixL_len (f g : Nat → Int) (k : Nat) : (mixL f g k).length = 64 := by simp [mixL]
theorem mixL_zero (f g : Nat → Int) : mixL f g 0 = allF g := by unfold mixL allF; simp
theorem mixL_all (f g : Nat → Int) : mixL f g 64 = allF f := by
  unfold mixL allF
  apply List.map_congr_left
  intro j hj
  rw [if_pos (List.mem_range.1 hj)]
theorem mixL_get (f g : Nat → Int) (k : Nat) (hk : k < 64) : (mixL f g k).getD k 0 = g k := by
  unfold mixL
  rw [range_get _ k hk, if_neg (by omega)]
theorem mixL_done (f g : Nat → Int) (k j : Nat) (hj : j < k) (hk : k ≤ 64) : (mixL f g k).getD j 0 = f j := by
  unfold mixL
  rw [range_get _ j (by omega), if_pos hj]
theorem mixL_next (f g : Nat → Int) (k : Nat) (hk : k < 64) : (mixL f g k).set k (f k) = mixL f g (k + 1) := by
  apply range_ext
  · rw [List.length_set]; exact mixL_len f g k
  · intro j hj
    rw [getDset _ _ _ _ (by rw [mixL_len]; exact hk)]
    by_cases e : k = j
    · subst e
      rw [if_pos rfl, if_pos (by omega)]
    · rw [if_neg e]
      unfold mixL
      rw [range_get _ j hj]
      by_cases h : j < k
      · rw [if_pos h, if_pos (by omega)]
      · rw [if_neg h, if_neg (by omega)]
theorem allF_zero : allF (fun _ => 0) = List.replicate 64 0 := by
  unfold allF
  rw [List.eq_replicate_iff]
  refine ⟨by simp, fun b hb => ?_⟩
  obtain ⟨k, _, rfl⟩ := List.mem_map.1 hb
  rfl

theorem sumAt_add (f g : Nat → Int) (y x : Nat) : sumAt (allF (fun j => f j + g j)) y x = sumAt (allF f) y x + sumAt (allF g) y x := by
  unfold sumAt
  rw [← sumN_add]
  apply sumN_congr
  intro v hv
  rw [← Int.mul_add, ← sumN_add]
  congr 1
  apply sumN_congr
  intro u hu
  rw [← Int.mul_add, allF_get _ _ (by omega), allF_get _ _ (by omega), allF_get _ _ (by omega)]

/-- A sum of blocks has the sum of their samples, but for one. -/
theorem sums_fact (f g : Nat → Int) (j : Nat) (hj : j < 64) :
    -1 ≤ (invL (allF (fun j => f j + g j))).getD j 0 - (invL (allF f)).getD j 0 - (invL (allF g)).getD j 0 ∧
    (invL (allF (fun j => f j + g j))).getD j 0 - (invL (allF f)).getD j 0 - (invL (allF g)).getD j 0 ≤ 1 := by
  have e : 8 * (j / 8) + j % 8 = j := by omega
  have h1 := invL_at (allF (fun j => f j + g j)) (allF_len _) (j / 8) (j % 8) (by omega) (by omega)
  have h2 := invL_at (allF f) (allF_len _) (j / 8) (j % 8) (by omega) (by omega)
  have h3 := invL_at (allF g) (allF_len _) (j / 8) (j % 8) (by omega) (by omega)
  rw [e] at h1 h2 h3
  rw [h1, h2, h3, sumAt_add f g]
  generalize sumAt (allF f) (j / 8) (j % 8) = A
  generalize sumAt (allF g) (j / 8) (j % 8) = B
  unfold rnd
  omega
/-- A block's samples are small. -/
theorem inv_bd (xs : List Int) (h : Bd 2048 xs) (j : Nat) (hj : j < 64) : -40000 ≤ (invL xs).getD j 0 ∧ (invL xs).getD j 0 ≤ 40000 := by
  have hs : Bd (16384 * (16384 * 2048)) (sumsL xs) := h.all81.all18
  have h1 := hs.2 j hj
  have e : (invL xs).getD j 0 = rnd ((sumsL xs).getD j 0) := by
    unfold invL
    rw [List.getD_eq_getElem?_getD, List.getD_eq_getElem?_getD, List.getElem?_map, List.getElem?_eq_getElem (by rw [hs.1]; exact hj)]
    rfl
  rw [e]
  unfold rnd
  omega

end Go.Proofs.Ytpdggfjpbdidlaa
