/-
  Plain Lean: what the lines of a block come to, the samples of a block, and their laws. No Go and no memory here.
-/
import Derived.Test.YtpdggfjpbdidlaaSpec
namespace Go.Proofs.Ytpdggfjpbdidlaa

theorem getDset (xs : List Int) (i j : Nat) (z : Int) (hi : i < xs.length) : (xs.set i z).getD j 0 = if i = j then z else xs.getD j 0 := by
  rw [List.getD_eq_getElem?_getD, List.getD_eq_getElem?_getD, List.getElem?_set]
  by_cases h : i = j
  · subst h
    rw [if_pos rfl, if_pos rfl, if_pos hi]
    rfl
  · rw [if_neg h, if_neg h]

theorem putL_get (a s : Nat) (hs : 1 ≤ s) (l : List Int) (k : Fin 8) : ∀ (ks : List (Fin 8)) (ys : List Int), (∀ j : Fin 8, a + j.val * s < ys.length) →
    (putL a s l ks ys).getD (a + k.val * s) 0 = if k ∈ ks then l.getD k.val 0 else ys.getD (a + k.val * s) 0
  | [], ys, _ => by simp [putL]
  | j :: ks, ys, hb => by
    show (putL a s l ks (ys.set (a + j.val * s) (l.getD j.val 0))).getD _ 0 = _
    rw [putL_get a s hs l k ks _ (by intro i; rw [List.length_set]; exact hb i), getDset _ _ _ _ (hb j)]
    by_cases h1 : k ∈ ks
    · rw [if_pos h1, if_pos (List.mem_cons_of_mem _ h1)]
    · rw [if_neg h1]
      by_cases h2 : k = j
      · subst h2
        rw [if_pos rfl, if_pos (List.mem_cons_self)]
      · have h3 : ¬ a + j.val * s = a + k.val * s := fun e => h2 (Fin.ext (Nat.mul_right_cancel hs (show k.val * s = j.val * s by omega)))
        rw [if_neg h3, if_neg (fun hm => (List.mem_cons.1 hm).elim h2 h1)]

theorem putL_far (a s : Nat) (l : List Int) (j : Nat) (hj : ∀ k : Fin 8, a + k.val * s ≠ j) : ∀ (ks : List (Fin 8)) (ys : List Int), (∀ j : Fin 8, a + j.val * s < ys.length) → (putL a s l ks ys).getD j 0 = ys.getD j 0
  | [], ys, _ => rfl
  | k :: ks, ys, hb => by
    show (putL a s l ks (ys.set (a + k.val * s) (l.getD k.val 0))).getD _ 0 = _
    rw [putL_far a s l j hj ks _ (by intro i; rw [List.length_set]; exact hb i), getDset _ _ _ _ (hb k), if_neg (hj k)]

/-- The places of a block's lines are apart. -/
def Sep (b s : Nat) : Prop := 1 ≤ s ∧ (∀ i k i' k' : Nat, i < 8 → k < 8 → i' < 8 → k' < 8 → 0 + i * b + k * s = 0 + i' * b + k' * s → i = i') ∧ ∀ i k : Nat, i < 8 → k < 8 → 0 + i * b + k * s < 64
theorem sep81 : Sep 8 1 := ⟨by omega, fun i k i' k' _ _ _ _ _ => by omega, fun i k _ _ => by omega⟩
theorem sep18 : Sep 1 8 := ⟨by omega, fun i k i' k' _ _ _ _ _ => by omega, fun i k _ _ => by omega⟩

theorem takeFin (k : Nat) (h : k < 8) : (List.finRange 8).take (k + 1) = (List.finRange 8).take k ++ [⟨k, h⟩] := by
  rw [List.take_succ_eq_append_getElem (by simpa using h)]
  congr 1
  simp

/-- The first m lines summed. -/
def firstL (b s m : Nat) (xs : List Int) : List Int := ((List.finRange 8).take m).foldl (lineAt b s) xs
def allL (b s : Nat) (xs : List Int) : List Int := (List.finRange 8).foldl (lineAt b s) xs

theorem firstL_at (b s : Nat) (h : Sep b s) (xs : List Int) (hx : xs.length = 64) : ∀ m : Nat, m ≤ 8 → (firstL b s m xs).length = 64 ∧
    ∀ i k : Nat, i < 8 → k < 8 → (firstL b s m xs).getD (0 + i * b + k * s) 0 = if i < m then lineP (getLine b s xs i) k 8 else xs.getD (0 + i * b + k * s) 0
  | 0, _ => ⟨hx, fun i k _ _ => by rw [if_neg (by omega)]; rfl⟩
  | m + 1, hm => by
    obtain ⟨h1, h2⟩ := firstL_at b s h xs hx m (by omega)
    have e : firstL b s (m + 1) xs = putL (0 + m * b) s (lineL (getLine b s (firstL b s m xs) m)) (List.finRange 8) (firstL b s m xs) := by
      unfold firstL
      rw [takeFin m (by omega), List.foldl_append]
      rfl
    have hg : getLine b s (firstL b s m xs) m = getLine b s xs m := by
      unfold getLine
      apply List.map_congr_left
      intro k hk
      rw [h2 m k (by omega) (List.mem_range.1 hk), if_neg (by omega)]
    rw [hg] at e
    have hb : ∀ j : Fin 8, 0 + m * b + j.val * s < (firstL b s m xs).length := fun j => by rw [h1]; exact h.2.2 m j.val (by omega) j.isLt
    refine ⟨by rw [e, putL_len]; exact h1, fun i k hi hk => ?_⟩
    rw [e]
    by_cases him : i = m
    · subst him
      have := putL_get (0 + i * b) s h.1 (lineL (getLine b s xs i)) ⟨k, hk⟩ (List.finRange 8) _ hb
      rw [if_pos (List.mem_finRange _)] at this
      rw [this, if_pos (by omega), lineL_get _ _ hk]
    · rw [putL_far _ _ _ _ (fun k' e' => him (h.2.1 i k m k'.val hi hk (by omega) k'.isLt e'.symm)) _ _ hb, h2 i k hi hk]
      by_cases hlt : i < m
      · rw [if_pos hlt, if_pos (by omega)]
      · rw [if_neg hlt, if_neg (by omega)]

theorem firstL_line (b s : Nat) (h : Sep b s) (xs : List Int) (hx : xs.length = 64) (m : Nat) (hm : m < 8) : getLine b s (firstL b s m xs) m = getLine b s xs m := by
  unfold getLine
  apply List.map_congr_left
  intro k hk
  rw [(firstL_at b s h xs hx m (by omega)).2 m k (by omega) (List.mem_range.1 hk), if_neg (by omega)]

theorem allL_eq (b s : Nat) (xs : List Int) : allL b s xs = firstL b s 8 xs := by
  unfold allL firstL
  rw [List.take_of_length_le (by simp)]
theorem allL_len (b s : Nat) (h : Sep b s) (xs : List Int) (hx : xs.length = 64) : (allL b s xs).length = 64 := by rw [allL_eq]; exact (firstL_at b s h xs hx 8 (by omega)).1
theorem allL_at (b s : Nat) (h : Sep b s) (xs : List Int) (hx : xs.length = 64) (i k : Nat) (hi : i < 8) (hk : k < 8) : (allL b s xs).getD (0 + i * b + k * s) 0 = lineP (getLine b s xs i) k 8 := by
  rw [allL_eq, (firstL_at b s h xs hx 8 (by omega)).2 i k hi hk, if_pos hi]

/-- All numbers of a block lie from -b to b. -/
def Bd (b : Int) (xs : List Int) : Prop := xs.length = 64 ∧ ∀ j, j < 64 → -b ≤ xs.getD j 0 ∧ xs.getD j 0 ≤ b

theorem getLine_get (b s : Nat) (ys : List Int) (i k : Nat) (hk : k < 8) : (getLine b s ys i).getD k 0 = ys.getD (0 + i * b + k * s) 0 := by
  unfold getLine
  rw [List.getD_eq_getElem?_getD, List.getElem?_map, List.getElem?_range hk]
  rfl
theorem Bd.line {c : Int} {xs : List Int} (h : Bd c xs) (b s : Nat) (hs : Sep b s) (i : Nat) (hi : i < 8) : Eight c (getLine b s xs i) :=
  ⟨by simp [getLine], fun u hu => by rw [getLine_get b s xs i u hu]; exact h.2 _ (hs.2.2 i u hi hu)⟩
theorem Bd.lines {c : Int} {xs : List Int} (h : Bd c xs) (b s : Nat) (hs : Sep b s) (hc : c ≤ 1099511627776) (k : Fin 8) :
    Eight 1099511627776 (getLine b s (((List.finRange 8).take k.val).foldl (lineAt b s) xs) k.val) := by
  have e : getLine b s (((List.finRange 8).take k.val).foldl (lineAt b s) xs) k.val = getLine b s xs k.val := firstL_line b s hs xs h.1 k.val k.isLt
  rw [e]
  obtain ⟨h1, h2⟩ := h.line b s hs k.val k.isLt
  exact ⟨h1, fun u hu => by have := h2 u hu; omega⟩

/-- Every place is a row's, and a column's. -/
theorem at81 (j : Nat) (_ : j < 64) : 0 + j / 8 * 8 + j % 8 * 1 = j := by omega
theorem at18 (j : Nat) (_ : j < 64) : 0 + j % 8 * 1 + j / 8 * 8 = j := by omega

theorem Bd.all81 {c : Int} {xs : List Int} (h : Bd c xs) : Bd (16384 * c) (allL 8 1 xs) := by
  refine ⟨allL_len 8 1 sep81 xs h.1, fun j hj => ?_⟩
  have := allL_at 8 1 sep81 xs h.1 (j / 8) (j % 8) (by omega) (by omega)
  rw [at81 j hj] at this
  rw [this]
  have := lineP_bd (h.line 8 1 sep81 (j / 8) (by omega)) (j % 8) (by omega) 8 (by omega)
  omega
theorem Bd.all18 {c : Int} {xs : List Int} (h : Bd c xs) : Bd (16384 * c) (allL 1 8 xs) := by
  refine ⟨allL_len 1 8 sep18 xs h.1, fun j hj => ?_⟩
  have := allL_at 1 8 sep18 xs h.1 (j % 8) (j / 8) (by omega) (by omega)
  rw [at18 j hj] at this
  rw [this]
  have := lineP_bd (h.line 1 8 sep18 (j % 8) (by omega)) (j / 8) (by omega) 8 (by omega)
  omega

/-- Rounding. -/
def rnd (z : Int) : Int := (z + 8388608) / 16777216
/-- A block's sums: rows, then columns. -/
def sumsL (xs : List Int) : List Int := allL 1 8 (allL 8 1 xs)
/-- A block's samples. -/
def invL (xs : List Int) : List Int := (sumsL xs).map rnd
theorem sumsL_len (xs : List Int) (h : xs.length = 64) : (sumsL xs).length = 64 := allL_len 1 8 sep18 _ (allL_len 8 1 sep81 xs h)
theorem invL_len (xs : List Int) (h : xs.length = 64) : (invL xs).length = 64 := by unfold invL; rw [List.length_map]; exact sumsL_len xs h

/-- The sum of the first n. -/
def sumN : Nat → (Nat → Int) → Int
  | 0, _ => 0
  | n + 1, f => sumN n f + f n
theorem sumN_congr {f g : Nat → Int} : ∀ n : Nat, (∀ i, i < n → f i = g i) → sumN n f = sumN n g
  | 0, _ => rfl
  | n + 1, h => by simp only [sumN]; rw [sumN_congr n (fun i hi => h i (by omega)), h n (by omega)]
theorem sumN_add (f g : Nat → Int) : ∀ n : Nat, sumN n (fun i => f i + g i) = sumN n f + sumN n g
  | 0 => rfl
  | n + 1 => by simp only [sumN]; rw [sumN_add f g n]; omega
theorem sumN_mul (c : Int) (f : Nat → Int) : ∀ n : Nat, sumN n (fun i => c * f i) = c * sumN n f
  | 0 => by simp [sumN]
  | n + 1 => by simp only [sumN]; rw [sumN_mul c f n, Int.mul_add]
theorem sumN_zero : ∀ n : Nat, sumN n (fun _ => 0) = 0
  | 0 => rfl
  | n + 1 => by simp only [sumN]; rw [sumN_zero n]; rfl
theorem sumN_comm (f : Nat → Nat → Int) (m : Nat) : ∀ n : Nat, sumN n (fun i => sumN m (fun j => f i j)) = sumN m (fun j => sumN n (fun i => f i j))
  | 0 => by simp only [sumN]; rw [sumN_zero]
  | n + 1 => by simp only [sumN]; rw [sumN_comm f m n, sumN_add]
theorem lineP_sum (l : List Int) (x : Nat) : ∀ n : Nat, lineP l x n = sumN n (fun u => wS u x * l.getD u 0)
  | 0 => rfl
  | n + 1 => by simp only [lineP, sumN]; rw [lineP_sum l x n]

/-- The sum at row y, column x. -/
def sumAt (xs : List Int) (y x : Nat) : Int := sumN 8 (fun v => wS v y * sumN 8 (fun u => wS u x * xs.getD (8 * v + u) 0))

theorem row_at (xs : List Int) (h : xs.length = 64) (v x : Nat) (hv : v < 8) (hx : x < 8) : (allL 8 1 xs).getD (8 * v + x) 0 = sumN 8 (fun u => wS u x * xs.getD (8 * v + u) 0) := by
  have := allL_at 8 1 sep81 xs h v x hv hx
  rw [show 0 + v * 8 + x * 1 = 8 * v + x by omega] at this
  rw [this, lineP_sum]
  apply sumN_congr
  intro u hu
  rw [getLine_get 8 1 xs v u hu, show 0 + v * 8 + u * 1 = 8 * v + u by omega]
theorem column_at (xs : List Int) (h : xs.length = 64) (y x : Nat) (hy : y < 8) (hx : x < 8) : (allL 1 8 xs).getD (8 * y + x) 0 = sumN 8 (fun v => wS v y * xs.getD (8 * v + x) 0) := by
  have := allL_at 1 8 sep18 xs h x y hx hy
  rw [show 0 + x * 1 + y * 8 = 8 * y + x by omega] at this
  rw [this, lineP_sum]
  apply sumN_congr
  intro u hu
  rw [getLine_get 1 8 xs x u hu, show 0 + x * 1 + u * 8 = 8 * u + x by omega]
theorem sumsL_at (xs : List Int) (h : xs.length = 64) (y x : Nat) (hy : y < 8) (hx : x < 8) : (sumsL xs).getD (8 * y + x) 0 = sumAt xs y x := by
  unfold sumsL sumAt
  rw [column_at _ (allL_len 8 1 sep81 xs h) y x hy hx]
  apply sumN_congr
  intro v hv
  rw [row_at xs h v x hv hx]
theorem sumsR_at (xs : List Int) (h : xs.length = 64) (y x : Nat) (hy : y < 8) (hx : x < 8) : (allL 8 1 (allL 1 8 xs)).getD (8 * y + x) 0 = sumAt xs y x := by
  unfold sumAt
  rw [row_at _ (allL_len 1 8 sep18 xs h) y x hy hx]
  have e1 : sumN 8 (fun u => wS u x * (allL 1 8 xs).getD (8 * y + u) 0) = sumN 8 (fun u => sumN 8 (fun v => wS v y * (wS u x * xs.getD (8 * v + u) 0))) := by
    apply sumN_congr
    intro u hu
    rw [column_at xs h y u hy hu, ← sumN_mul]
    apply sumN_congr
    intro v _
    rw [← Int.mul_assoc, ← Int.mul_assoc, Int.mul_comm (wS u x)]
  rw [e1, sumN_comm]
  apply sumN_congr
  intro v _
  rw [sumN_mul]
theorem invL_at (xs : List Int) (h : xs.length = 64) (y x : Nat) (hy : y < 8) (hx : x < 8) : (invL xs).getD (8 * y + x) 0 = rnd (sumAt xs y x) := by
  rw [← sumsL_at xs h y x hy hx]
  unfold invL
  have hl := sumsL_len xs h
  rw [List.getD_eq_getElem?_getD, List.getD_eq_getElem?_getD, List.getElem?_map, List.getElem?_eq_getElem (by omega)]
  rfl

end Go.Proofs.Ytpdggfjpbdidlaa
