/-
  Plain Lean: what the quantiser's functions answer, and the laws of these answers. No Go and no memory here.
-/
namespace Go.Proofs.Ytlgpagaclfcoaaa

/-- What a level's size is worth, before it is clipped. -/
def vM (m q : Int) : Int := if q % 2 = 0 then q * (2 * m + 1) - 1 else q * (2 * m + 1)
/-- What a level is worth. -/
def vV (l q : Int) : Int := if 0 < l then min (vM l q) 2047 else if l < 0 then max (-(vM (-l) q)) (-2048) else 0
/-- What a first code is worth. -/
def dV (c : Int) : Int := if c < 0 ∨ 255 < c then 0 else if c = 0 ∨ c = 128 then 0 else if c = 255 then 1024 else 8 * c
def dE (c : Int) : Int := if c < 0 ∨ 255 < c then 3 else if c = 0 ∨ c = 128 then 10 else 0
/-- A number from 0 on below n. -/
def pick (x n : Int) : Int := x % n

theorem prod_bd (m q : Int) (hm0 : 0 ≤ m) (hm : m ≤ 127) (hq0 : 1 ≤ q) (hq : q ≤ 31) : 1 ≤ q * (2 * m + 1) ∧ q * (2 * m + 1) ≤ 7905 := by
  constructor
  · have := Int.mul_le_mul (a := 1) (b := 1) (c := q) (d := 2 * m + 1) hq0 (by omega) (by omega) (by omega)
    omega
  · have := Int.mul_le_mul (a := q) (b := 2 * m + 1) (c := 31) (d := 255) hq (by omega) (by omega) (by omega)
    omega

theorem vM_bd (m q : Int) (hm0 : 0 ≤ m) (hm : m ≤ 127) (hq0 : 1 ≤ q) (hq : q ≤ 31) : 0 ≤ vM m q ∧ vM m q ≤ 7905 := by
  have := prod_bd m q hm0 hm hq0 hq
  unfold vM; split <;> omega

/-- Is n from lo to hi? -/
def inB (n lo hi : Int) : Bool := decide (lo ≤ n) && decide (n ≤ hi)
theorem inB_yes {n lo hi : Int} (h1 : lo ≤ n) (h2 : n ≤ hi) : inB n lo hi = true := by simp [inB, h1, h2]
theorem inB_no {n lo hi : Int} (h : n < lo ∨ hi < n) : inB n lo hi = false := by
  unfold inB
  rcases h with h | h
  · have : decide (lo ≤ n) = false := by simp; omega
    simp [this]
  · have : decide (n ≤ hi) = false := by simp; omega
    simp [this]

/-- How far a level's value is from v. -/
def farS (l q v : Int) : Int := max (vV l q - v) (v - vV l q)
/-- The better one of the best so far and a level. -/
def stepN (q v best l : Int) : Int := if farS l q v < farS best q v then l else best
/-- The best level of those whose size is at most n: the level above 0 first. -/
def nearL (q v : Int) : Nat → Int
  | 0 => 0
  | n + 1 => stepN q v (stepN q v (nearL q v n) ((n + 1 : Nat) : Int)) (-((n + 1 : Nat) : Int))
/-- The same, the level below 0 first. -/
def nearR (q v : Int) : Nat → Int
  | 0 => 0
  | n + 1 => stepN q v (stepN q v (nearR q v n) (-((n + 1 : Nat) : Int))) ((n + 1 : Nat) : Int)

theorem vV_bd (l q : Int) (h1 : -127 ≤ l) (h2 : l ≤ 127) (h3 : 1 ≤ q) (h4 : q ≤ 31) : -2048 ≤ vV l q ∧ vV l q ≤ 2047 := by
  unfold vV
  split
  · have := vM_bd l q (by omega) h2 h3 h4
    omega
  · split
    · have := vM_bd (-l) q (by omega) (by omega) h3 h4
      omega
    · omega

theorem nearL_succ (q v : Int) (n : Nat) : nearL q v (n + 1) = stepN q v (stepN q v (nearL q v n) ((n : Int) + 1)) (-((n : Int) + 1)) := rfl
theorem nearR_succ (q v : Int) (n : Nat) : nearR q v (n + 1) = stepN q v (stepN q v (nearR q v n) (-((n : Int) + 1))) ((n : Int) + 1) := rfl
theorem step_or (q v best l : Int) : stepN q v best l = best ∨ stepN q v best l = l := by unfold stepN; split <;> simp
theorem nearL_bd (q v : Int) : ∀ n : Nat, -(n : Int) ≤ nearL q v n ∧ nearL q v n ≤ (n : Int)
  | 0 => by simp [nearL]
  | n + 1 => by
    have h := nearL_bd q v n
    have h1 := step_or q v (nearL q v n) ((n + 1 : Nat) : Int)
    have h2 := step_or q v (stepN q v (nearL q v n) ((n + 1 : Nat) : Int)) (-((n + 1 : Nat) : Int))
    simp only [nearL]
    rcases h1 with h1 | h1 <;> rcases h2 with h2 | h2 <;> rw [h2] <;> (try rw [h1]) <;> omega
theorem nearR_bd (q v : Int) : ∀ n : Nat, -(n : Int) ≤ nearR q v n ∧ nearR q v n ≤ (n : Int)
  | 0 => by simp [nearR]
  | n + 1 => by
    have h := nearR_bd q v n
    have h1 := step_or q v (nearR q v n) (-((n + 1 : Nat) : Int))
    have h2 := step_or q v (stepN q v (nearR q v n) (-((n + 1 : Nat) : Int))) ((n + 1 : Nat) : Int)
    simp only [nearR]
    rcases h1 with h1 | h1 <;> rcases h2 with h2 | h2 <;> rw [h2] <;> (try rw [h1]) <;> omega

end Go.Proofs.Ytlgpagaclfcoaaa
