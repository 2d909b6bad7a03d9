/-
  Plain Lean: the weights, the sums of a line, and the samples of a block. No Go and no memory here.
-/
namespace Go.Proofs.Ytpdggfjpbdidlaa

/-- 2048 times the cosine of up to eight sixteenths of a half turn. -/
def cQ : List Int := [2048, 2009, 1892, 1703, 1448, 1138, 784, 400, 0]
def cS (k : Nat) : Int := cQ.getD k 0
/-- Of up to sixteen. -/
def cH (k : Nat) : Int := if 8 < k then -(cS (16 - k)) else cS k
/-- Of any number below 32. -/
def cT (k : Nat) : Int := if 16 < k then cH (32 - k) else cH k
/-- The weight of u at x. -/
def wS (u x : Nat) : Int := if u = 0 then 1448 else cT ((2 * x + 1) * u % 32)
/-- All weights, by u, by x. -/
def wL : List Int := (List.range 64).map (fun j => wS (j / 8) (j % 8))

theorem cS_bd (k : Nat) : -2048 ≤ cS k ∧ cS k ≤ 2048 := by
  rcases (by omega : k = 0 ∨ k = 1 ∨ k = 2 ∨ k = 3 ∨ k = 4 ∨ k = 5 ∨ k = 6 ∨ k = 7 ∨ k = 8 ∨ 9 ≤ k) with rfl | rfl | rfl | rfl | rfl | rfl | rfl | rfl | rfl | h
  all_goals try decide
  unfold cS cQ
  rw [List.getD_eq_getElem?_getD, List.getElem?_eq_none (by simpa using h)]
  decide
theorem wS_bd : ∀ u : Fin 8, ∀ x : Fin 8, -2048 ≤ wS u x ∧ wS u x ≤ 2048 := by decide
theorem wL_len : wL.length = 64 := by simp [wL]
theorem wL_get (u x : Nat) (hu : u < 8) (hx : x < 8) : wL.getD (8 * u + x) 0 = wS u x := by
  unfold wL
  rw [List.getD_eq_getElem?_getD, List.getElem?_map, List.getElem?_range (by omega)]
  have h1 : (8 * u + x) / 8 = u := by omega
  have h2 : (8 * u + x) % 8 = x := by omega
  simp [h1, h2]

/-- What the first n of eight numbers come to at x. -/
def lineP (l : List Int) (x : Nat) : Nat → Int
  | 0 => 0
  | u + 1 => lineP l x u + wS u x * l.getD u 0
/-- What eight numbers come to. -/
def lineL (l : List Int) : List Int := (List.range 8).map (fun x => lineP l x 8)
theorem lineL_len (l : List Int) : (lineL l).length = 8 := by simp [lineL]
theorem lineL_get (l : List Int) (x : Nat) (hx : x < 8) : (lineL l).getD x 0 = lineP l x 8 := by
  unfold lineL
  rw [List.getD_eq_getElem?_getD, List.getElem?_map, List.getElem?_range hx]
  rfl

theorem mul_bd (c z b : Int) (h1 : -2048 ≤ c) (h2 : c ≤ 2048) (h3 : -b ≤ z) (h4 : z ≤ b) : -(2048 * b) ≤ c * z ∧ c * z ≤ 2048 * b := by
  have hb : 0 ≤ b := by omega
  constructor
  · rcases (by omega : 0 ≤ c ∨ c < 0) with hc | hc
    · have a1 := Int.mul_le_mul_of_nonneg_left h3 hc
      have a2 := Int.mul_le_mul_of_nonneg_right h2 hb
      have a3 : c * -b = -(c * b) := Int.mul_neg c b
      omega
    · have a1 := Int.mul_le_mul_of_nonpos_left (a := c) (by omega) h4
      have a2 := Int.mul_le_mul_of_nonneg_right h1 hb
      have a3 : -2048 * b = -(2048 * b) := Int.neg_mul 2048 b
      omega
  · rcases (by omega : 0 ≤ c ∨ c < 0) with hc | hc
    · have a1 := Int.mul_le_mul_of_nonneg_left h4 hc
      have a2 := Int.mul_le_mul_of_nonneg_right h2 hb
      omega
    · have a1 := Int.mul_le_mul_of_nonpos_left (a := c) (by omega) h3
      have a2 := Int.mul_le_mul_of_nonneg_right h1 hb
      have a3 : c * -b = -(c * b) := Int.mul_neg c b
      have a4 : -2048 * b = -(2048 * b) := Int.neg_mul 2048 b
      omega

/-- Eight numbers from -b to b. -/
def Eight (b : Int) (l : List Int) : Prop := l.length = 8 ∧ ∀ u, u < 8 → -b ≤ l.getD u 0 ∧ l.getD u 0 ≤ b

theorem term_bd {b : Int} {l : List Int} (h : Eight b l) (u x : Nat) (hu : u < 8) (hx : x < 8) : -(2048 * b) ≤ wS u x * l.getD u 0 ∧ wS u x * l.getD u 0 ≤ 2048 * b := by
  have hw := wS_bd ⟨u, hu⟩ ⟨x, hx⟩
  have hl := h.2 u hu
  exact mul_bd _ _ b hw.1 hw.2 hl.1 hl.2

theorem lineP_bd {b : Int} {l : List Int} (h : Eight b l) (x : Nat) (hx : x < 8) : ∀ u : Nat, u ≤ 8 → -((u : Int) * (2048 * b)) ≤ lineP l x u ∧ lineP l x u ≤ (u : Int) * (2048 * b)
  | 0, _ => by simp [lineP]
  | u + 1, hu => by
    have ih := lineP_bd h x hx u (by omega)
    have ht := term_bd h u x (by omega) hx
    have e : ((u + 1 : Nat) : Int) * (2048 * b) = (u : Int) * (2048 * b) + 2048 * b := by
      rw [Int.natCast_add, Int.add_mul]; simp
    rw [e]
    simp only [lineP]
    omega

/-- The numbers of a line of a block: lines begin b apart, their numbers are s apart. -/
def getLine (b s : Nat) (ys : List Int) (i : Nat) : List Int := (List.range 8).map (fun k => ys.getD (0 + i * b + k * s) 0)
/-- Eight numbers put into a line. -/
def putL (a s : Nat) (l : List Int) (ks : List (Fin 8)) (ys : List Int) : List Int := ks.foldl (fun zs k => zs.set (a + k.val * s) (l.getD k.val 0)) ys
def putLine (b s : Nat) (ys : List Int) (i : Nat) (l : List Int) : List Int := putL (0 + i * b) s l (List.finRange 8) ys
def lineAt (b s : Nat) (ys : List Int) (i : Fin 8) : List Int := putLine b s ys i.val (lineL (getLine b s ys i.val))

theorem putL_len (a s : Nat) (l : List Int) : ∀ (ks : List (Fin 8)) (ys : List Int), (putL a s l ks ys).length = ys.length
  | [], _ => rfl
  | k :: ks, ys => by
    show (putL a s l ks _).length = _
    rw [putL_len a s l ks, List.length_set]
theorem putL_snoc (a s : Nat) (l : List Int) (ks : List (Fin 8)) (k : Fin 8) (ys : List Int) : putL a s l (ks ++ [k]) ys = (putL a s l ks ys).set (a + k.val * s) (l.getD k.val 0) := by
  simp [putL]

end Go.Proofs.Ytpdggfjpbdidlaa
