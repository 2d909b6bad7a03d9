/-
  The walk of QuantOdd: it returns true, whatever the arguments. Conditions: none.
-/
import Derived.Test.YtlgpagaclfcoaaaWalkF
namespace Go.Proofs.Ytlgpagaclfcoaaa
open Go.RowKit

theorem Value_is (l q x : Int) (h1 : -127 ≤ l) (h2 : l ≤ 127) (h3 : 1 ≤ q) (h4 : q ≤ 31) (hx : vV l q = x) (w : World) :
    Calls Try.prog 10 #[.int .i64 l, .int .i64 q] w fun e w' => e = .returned (.tuple #[.int .i64 x, .int .i64 0]) ∧ Below w.heap.size w w' := by
  rw [← hx]; exact Value_good l q h1 h2 h3 h4 w

/-- The five kinds of a level and its other side: what both are worth. -/
theorem odd_cases (l q : Int) (h3 : 1 ≤ q) :
    (l = 0 ∧ vV l q = 0 ∧ vV (-l) q = 0) ∨
    (0 < l ∧ ∃ X : Int, 2 ≤ X ∧ X ≤ 2047 ∧ X % 2 = 1 ∧ vV l q = X ∧ vV (-l) q = -X) ∨
    (0 < l ∧ vV l q = 2047 ∧ vV (-l) q = -2048) ∨
    (l < 0 ∧ ∃ X : Int, 2 ≤ X ∧ X ≤ 2047 ∧ X % 2 = 1 ∧ vV l q = -X ∧ vV (-l) q = X) ∨
    (l < 0 ∧ vV l q = -2048 ∧ vV (-l) q = 2047) := by
  rcases (by omega : l = 0 ∨ 0 < l ∨ l < 0) with rfl | h | h
  · left; exact ⟨rfl, vV_zero q, by rw [Int.neg_zero]; exact vV_zero q⟩
  · obtain ⟨X, hX1, hX2, _, hp, hn⟩ := vV_both l q (by omega) h3
    by_cases hX : X ≤ 2047
    · right; left; exact ⟨h, X, hX1, hX, hX2, by omega, by omega⟩
    · right; right; left; exact ⟨h, by omega, by omega⟩
  · obtain ⟨X, hX1, hX2, _, hp, hn⟩ := vV_both (-l) q (by omega) h3
    rw [Int.neg_neg] at hn
    by_cases hX : X ≤ 2047
    · right; right; right; left; exact ⟨h, X, hX1, hX, hX2, by omega, by omega⟩
    · right; right; right; right; exact ⟨h, by omega, by omega⟩

theorem tmod_odd (X : Int) (h : 2 ≤ X) (h2 : X % 2 = 1) : (-X).tmod 2 = -1 := by
  rw [Int.neg_tmod, Int.tmod_eq_emod_of_nonneg (by omega), h2]

set_option maxRecDepth 100000 in
set_option maxHeartbeats 1000000 in
theorem odd_walk (a b : Int) (w : World) :
    Calls Try.prog 5 #[.int .i64 a, .int .i64 b] w fun e w' => e = .returned (.bool true) ∧ Below w.heap.size w w' := by
  go_enter Try.func5, Try.ntmps5
  go_wp2_with fail
  refine (known_walk _).mono ?_
  rintro e w1 ⟨rfl, hb1⟩
  go_wp2_with fail
  refine (of_any _ _ _).mono ?_
  rintro e w2 ⟨l, q, ⟨h1, h2, h3, h4⟩, rfl, rfl⟩
  have hc := odd_cases l q h3
  rcases hc with ⟨rfl, hx, hy⟩ | ⟨h, X, hX1, hX2, hX3, hx, hy⟩ | ⟨h, hx, hy⟩ | ⟨h, X, hX1, hX2, hX3, hx, hy⟩ | ⟨h, hx, hy⟩
  · have HX := Lib.hid hx
    have HY := Lib.hid hy
    clear hx hy
    go_wp2_with fail
    refine (Value_is _ q _ (by omega) (by omega) h3 h4 HX.out _).mono ?_
    rintro e w3 ⟨rfl, hb3⟩
    go_wp2_with fail
    refine (Value_is _ q _ (by omega) (by omega) h3 h4 HY.out _).mono ?_
    rintro e w4 ⟨rfl, hb4⟩
    go_wp2_with fail
    go_ret
    exact ⟨rfl, bt (bt hb1 hb3) hb4⟩
  · have HX := Lib.hid hx
    have HY := Lib.hid hy
    clear hx hy
    have d0 : decide (X < -2048) = false := by simp; omega
    have d1 : decide (2047 < X) = false := by simp; omega
    have d2 : (X == 0) = false := by simp; omega
    have d3 : decide (0 < X) = true := by simp; omega
    have d4 : (l == 0) = false := by simp; omega
    have d5 : decide (0 < l) = true := by simp; omega
    go_wp2_with fail
    refine (Value_is _ q _ (by omega) (by omega) h3 h4 HX.out _).mono ?_
    rintro e w3 ⟨rfl, hb3⟩
    go_wp2_with fail
    refine (Value_is _ q _ (by omega) (by omega) h3 h4 HY.out _).mono ?_
    rintro e w4 ⟨rfl, hb4⟩
    go_wp2_with fail
    go_ret
    exact ⟨rfl, bt (bt hb1 hb3) hb4⟩
  · have HX := Lib.hid hx
    have HY := Lib.hid hy
    clear hx hy
    have d0 : (l == 0) = false := by simp; omega
    have d1 : decide (0 < l) = true := by simp; omega
    go_wp2_with fail
    refine (Value_is _ q _ (by omega) (by omega) h3 h4 HX.out _).mono ?_
    rintro e w3 ⟨rfl, hb3⟩
    go_wp2_with fail
    refine (Value_is _ q _ (by omega) (by omega) h3 h4 HY.out _).mono ?_
    rintro e w4 ⟨rfl, hb4⟩
    go_wp2_with fail
    go_ret
    exact ⟨rfl, bt (bt hb1 hb3) hb4⟩
  · have HX := Lib.hid hx
    have HY := Lib.hid hy
    clear hx hy
    have ht := tmod_odd X hX1 hX3
    have d0 : decide (2048 < X) = false := by simp; omega
    have d1 : decide (2047 < -X) = false := by simp; omega
    have d2 : (-X == 0) = false := by simp; omega
    have d3 : (X == 0) = false := by simp; omega
    have d4 : decide (0 < -X) = false := by simp; omega
    have d5 : decide (X < 0) = false := by simp; omega
    have d6 : (l == 0) = false := by simp; omega
    have d7 : decide (0 < l) = false := by simp; omega
    go_wp2_with fail
    refine (Value_is _ q _ (by omega) (by omega) h3 h4 HX.out _).mono ?_
    rintro e w3 ⟨rfl, hb3⟩
    go_wp2_with fail
    refine (Value_is _ q _ (by omega) (by omega) h3 h4 HY.out _).mono ?_
    rintro e w4 ⟨rfl, hb4⟩
    go_wp2_with fail
    go_ret
    exact ⟨rfl, bt (bt hb1 hb3) hb4⟩
  · have HX := Lib.hid hx
    have HY := Lib.hid hy
    clear hx hy
    have d0 : (l == 0) = false := by simp; omega
    have d1 : decide (0 < l) = false := by simp; omega
    go_wp2_with fail
    refine (Value_is _ q _ (by omega) (by omega) h3 h4 HX.out _).mono ?_
    rintro e w3 ⟨rfl, hb3⟩
    go_wp2_with fail
    refine (Value_is _ q _ (by omega) (by omega) h3 h4 HY.out _).mono ?_
    rintro e w4 ⟨rfl, hb4⟩
    go_wp2_with fail
    go_ret
    exact ⟨rfl, bt (bt hb1 hb3) hb4⟩

end Go.Proofs.Ytlgpagaclfcoaaa
