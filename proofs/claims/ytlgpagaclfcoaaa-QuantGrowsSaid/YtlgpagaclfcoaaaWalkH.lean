/-
  The walk of QuantGrows: it returns true, whatever the arguments. Conditions: none.
-/
import Derived.Test.YtlgpagaclfcoaaaWalkG
namespace Go.Proofs.Ytlgpagaclfcoaaa
open Go.RowKit

/-- The kinds of a level below 127: what it and the next one are worth, and what it is worth by the next quantiser. -/
theorem grows_cases (l q : Int) (h1 : -127 ≤ l) (h2 : l < 127) (h3 : 1 ≤ q) (h4 : q ≤ 31) : ∃ x y z : Int, vV l q = x ∧ vV (l + 1) q = y ∧ vV l (q + 1) = z ∧
    ((1 ≤ l ∧ x = 2047 ∧ y = 2047 ∧ z = 2047) ∨ (1 ≤ l ∧ 0 < x ∧ x < 2047 ∧ y = 2047 ∧ x < z ∧ z ≤ 2047) ∨ (1 ≤ l ∧ 0 < x ∧ x < y ∧ y < 2047 ∧ y - x = 2 * q ∧ x < z ∧ z ≤ 2047) ∨
     (-1 ≤ l ∧ l ≤ 0 ∧ -2048 ≤ x ∧ x < y ∧ y ≤ 2047) ∨ (l < -1 ∧ x = -2048 ∧ y = -2048) ∨ (l < -1 ∧ x = -2048 ∧ -2048 < y ∧ y < 0) ∨ (l < -1 ∧ -2048 < x ∧ x < y ∧ y < 0 ∧ y - x = 2 * q)) := by
  refine ⟨_, _, _, rfl, rfl, rfl, ?_⟩
  rcases (by omega : 1 ≤ l ∨ l = 0 ∨ l = -1 ∨ l < -1) with h | rfl | rfl | h
  · obtain ⟨X, hX1, _, hX3, hp, _⟩ := vV_both l q h h3
    obtain ⟨Y, hY1, _, hY3, hp2, _⟩ := vV_both (l + 1) q (by omega) h3
    obtain ⟨Z, hZ1, _, hZ3, hp3, _⟩ := vV_both l (q + 1) h (by omega)
    have e1 := vM_next l q
    have e2 := vM_up l q h
    rw [hp, hp2, hp3]
    clear hp hp2 hp3
    by_cases k1 : 2047 ≤ X
    · exact .inl ⟨h, by omega, by omega, by omega⟩
    · by_cases k2 : 2047 ≤ Y
      · exact .inr (.inl ⟨h, by omega, by omega, by omega, by omega, by omega⟩)
      · exact .inr (.inr (.inl ⟨h, by omega, by omega, by omega, by omega, by omega, by omega⟩))
  · obtain ⟨Y, hY1, _, hY3, hp2, _⟩ := vV_both 1 q (by omega) h3
    have e : vV (0 + 1) q = min Y 2047 := hp2
    rw [vV_zero, e]
    exact .inr (.inr (.inr (.inl ⟨by omega, by omega, by omega, by omega, by omega⟩)))
  · obtain ⟨Y, hY1, _, hY3, _, hn⟩ := vV_both 1 q (by omega) h3
    have e : vV (-1 + 1) q = 0 := vV_zero q
    rw [hn, e]
    exact .inr (.inr (.inr (.inl ⟨by omega, by omega, by omega, by omega, by omega⟩)))
  · obtain ⟨X, hX1, _, hX3, _, hn⟩ := vV_both (-l) q (by omega) h3
    obtain ⟨Y, hY1, _, hY3, _, hn2⟩ := vV_both (-(l + 1)) q (by omega) h3
    have e1 := vM_next (-(l + 1)) q
    have e2 : -(l + 1) + 1 = -l := by omega
    rw [e2] at e1
    rw [Int.neg_neg] at hn hn2
    rw [hn, hn2]
    clear hn hn2
    by_cases k1 : 2048 ≤ Y
    · exact .inr (.inr (.inr (.inr (.inl ⟨h, by omega, by omega⟩))))
    · by_cases k2 : 2048 ≤ X
      · exact .inr (.inr (.inr (.inr (.inr (.inl ⟨h, by omega, by omega, by omega⟩)))))
      · exact .inr (.inr (.inr (.inr (.inr (.inr ⟨h, by omega, by omega, by omega, by omega⟩)))))

set_option maxRecDepth 100000 in
set_option maxHeartbeats 2000000 in
theorem grows_walk (a b : Int) (w : World) :
    Calls Try.prog 6 #[.int .i64 a, .int .i64 b] w fun e w' => e = .returned (.bool true) ∧ Below w.heap.size w w' := by
  go_enter Try.func6, Try.ntmps6
  go_wp2_with fail
  refine (awake_any _).mono ?_
  rintro e w1 ⟨rfl, hb1⟩
  go_wp2_with fail
  refine (of_any _ _ _).mono ?_
  rintro e w2 ⟨l, q, ⟨h1, h2, h3, h4⟩, rfl, rfl⟩
  rcases (by omega : l = 127 ∨ l < 127) with rfl | hl
  · go_wp2_with fail
    go_ret
    exact ⟨rfl, hb1⟩
  have dl : (l == 127) = false := by simp; omega
  obtain ⟨x, y, z, hx, hy, hz, hc⟩ := grows_cases l q h1 hl h3 h4
  have HX := Lib.hid hx
  have HY := Lib.hid hy
  have HZ := Lib.hid hz
  clear hx hy hz
  rcases hc with ⟨c1, rfl, rfl, rfl⟩ | ⟨c1, c2, c3, rfl, c4, c5⟩ | ⟨c1, c2, c3, c4, c5, c6, c7⟩ | ⟨c1, c2, c3, c4, c5⟩ | ⟨c1, rfl, rfl⟩ | ⟨c1, rfl, c2, c3⟩ | ⟨c1, c2, c3, c4, c5⟩
  · by_cases hq : q = 31
    · have dq : (q == 31) = true := by simp; omega
      clear hq
      have d0 : decide (0 < l) = true := by first | (simp; omega) | simp
      have d1 : decide (l < -1) = false := by first | (simp; omega) | simp
      have d2 : decide (l < 1) = false := by first | (simp; omega) | simp
      go_wp2_with fail
      refine (Value_is l q _ h1 h2 h3 h4 HX.out _).mono ?_
      rintro e w3 ⟨rfl, hb3⟩
      go_wp2_with fail
      refine (Value_is (l + 1) q _ (by omega) (by omega) h3 h4 HY.out _).mono ?_
      rintro e w4 ⟨rfl, hb4⟩
      go_wp2_with fail
      go_ret
      exact ⟨rfl, bt (bt hb1 hb3) hb4⟩
    · have dq : (q == 31) = false := by simp; omega
      have hq' : q < 31 := by omega
      clear hq
      have d0 : decide (0 < l) = true := by first | (simp; omega) | simp
      have d1 : decide (l < -1) = false := by first | (simp; omega) | simp
      have d2 : decide (l < 1) = false := by first | (simp; omega) | simp
      go_wp2_with fail
      refine (Value_is l q _ h1 h2 h3 h4 HX.out _).mono ?_
      rintro e w3 ⟨rfl, hb3⟩
      go_wp2_with fail
      refine (Value_is (l + 1) q _ (by omega) (by omega) h3 h4 HY.out _).mono ?_
      rintro e w4 ⟨rfl, hb4⟩
      go_wp2_with fail
      refine (Value_is l (q + 1) _ h1 h2 (by omega) (by omega) HZ.out _).mono ?_
      rintro e w5 ⟨rfl, hb5⟩
      go_wp2_with fail
      go_ret
      exact ⟨rfl, bt (bt (bt hb1 hb3) hb4) hb5⟩
  · by_cases hq : q = 31
    · have dq : (q == 31) = true := by simp; omega
      clear hq
      have d0 : decide (0 < l) = true := by first | (simp; omega) | simp
      have d1 : decide (l < -1) = false := by first | (simp; omega) | simp
      have d2 : decide (l < 1) = false := by first | (simp; omega) | simp
      have d3 : decide (2047 < x) = false := by first | (simp; omega) | simp
      have d4 : (2047 == x) = false := by first | (simp; omega) | simp
      go_wp2_with fail
      refine (Value_is l q _ h1 h2 h3 h4 HX.out _).mono ?_
      rintro e w3 ⟨rfl, hb3⟩
      go_wp2_with fail
      refine (Value_is (l + 1) q _ (by omega) (by omega) h3 h4 HY.out _).mono ?_
      rintro e w4 ⟨rfl, hb4⟩
      go_wp2_with fail
      go_ret
      exact ⟨rfl, bt (bt hb1 hb3) hb4⟩
    · have dq : (q == 31) = false := by simp; omega
      have hq' : q < 31 := by omega
      clear hq
      have d0 : decide (0 < l) = true := by first | (simp; omega) | simp
      have d1 : decide (l < -1) = false := by first | (simp; omega) | simp
      have d2 : decide (l < 1) = false := by first | (simp; omega) | simp
      have d3 : decide (2047 < x) = false := by first | (simp; omega) | simp
      have d4 : (2047 == x) = false := by first | (simp; omega) | simp
      have d5 : decide (x < z) = true := by first | (simp; omega) | simp
      go_wp2_with fail
      refine (Value_is l q _ h1 h2 h3 h4 HX.out _).mono ?_
      rintro e w3 ⟨rfl, hb3⟩
      go_wp2_with fail
      refine (Value_is (l + 1) q _ (by omega) (by omega) h3 h4 HY.out _).mono ?_
      rintro e w4 ⟨rfl, hb4⟩
      go_wp2_with fail
      refine (Value_is l (q + 1) _ h1 h2 (by omega) (by omega) HZ.out _).mono ?_
      rintro e w5 ⟨rfl, hb5⟩
      go_wp2_with fail
      go_ret
      exact ⟨rfl, bt (bt (bt hb1 hb3) hb4) hb5⟩
  · have C5 := Lib.hid c5
    have c5a : y - x ≤ 2 * q := by omega
    have c5b : 2 * q ≤ y - x := by omega
    clear c5
    by_cases hq : q = 31
    · have dq : (q == 31) = true := by simp; omega
      clear hq
      have d0 : decide (0 < l) = true := by first | (simp; omega) | simp
      have d1 : decide (l < -1) = false := by first | (simp; omega) | simp
      have d2 : decide (l < 1) = false := by first | (simp; omega) | simp
      have d3 : decide (y < x) = false := by first | (simp; omega) | simp
      have d4 : (y == x) = false := by first | (simp; omega) | simp
      have d5 : decide (y < 2047) = true := by first | (simp; omega) | simp
      have d6 : (y - x != 2 * q) = false := by first | (simp; omega) | simp
      have d7 : (y - x == 2 * q) = true := by first | (simp; omega) | simp
      go_wp2_with fail
      refine (Value_is l q _ h1 h2 h3 h4 HX.out _).mono ?_
      rintro e w3 ⟨rfl, hb3⟩
      go_wp2_with fail
      refine (Value_is (l + 1) q _ (by omega) (by omega) h3 h4 HY.out _).mono ?_
      rintro e w4 ⟨rfl, hb4⟩
      go_wp2_with fail
      go_ret
      exact ⟨rfl, bt (bt hb1 hb3) hb4⟩
    · have dq : (q == 31) = false := by simp; omega
      have hq' : q < 31 := by omega
      clear hq
      have d0 : decide (0 < l) = true := by first | (simp; omega) | simp
      have d1 : decide (l < -1) = false := by first | (simp; omega) | simp
      have d2 : decide (l < 1) = false := by first | (simp; omega) | simp
      have d3 : decide (y < x) = false := by first | (simp; omega) | simp
      have d4 : (y == x) = false := by first | (simp; omega) | simp
      have d5 : decide (y < 2047) = true := by first | (simp; omega) | simp
      have d6 : (y - x != 2 * q) = false := by first | (simp; omega) | simp
      have d7 : (y - x == 2 * q) = true := by first | (simp; omega) | simp
      have d8 : decide (x < z) = true := by first | (simp; omega) | simp
      go_wp2_with fail
      refine (Value_is l q _ h1 h2 h3 h4 HX.out _).mono ?_
      rintro e w3 ⟨rfl, hb3⟩
      go_wp2_with fail
      refine (Value_is (l + 1) q _ (by omega) (by omega) h3 h4 HY.out _).mono ?_
      rintro e w4 ⟨rfl, hb4⟩
      go_wp2_with fail
      refine (Value_is l (q + 1) _ h1 h2 (by omega) (by omega) HZ.out _).mono ?_
      rintro e w5 ⟨rfl, hb5⟩
      go_wp2_with fail
      go_ret
      exact ⟨rfl, bt (bt (bt hb1 hb3) hb4) hb5⟩
  · have d0 : decide (0 < l) = false := by first | (simp; omega) | simp
    have d1 : decide (l < -1) = false := by first | (simp; omega) | simp
    have d2 : decide (l < 1) = true := by first | (simp; omega) | simp
    have d3 : decide (y < x) = false := by first | (simp; omega) | simp
    have d4 : (y == x) = false := by first | (simp; omega) | simp
    go_wp2_with fail
    refine (Value_is l q _ h1 h2 h3 h4 HX.out _).mono ?_
    rintro e w3 ⟨rfl, hb3⟩
    go_wp2_with fail
    refine (Value_is (l + 1) q _ (by omega) (by omega) h3 h4 HY.out _).mono ?_
    rintro e w4 ⟨rfl, hb4⟩
    go_wp2_with fail
    go_ret
    exact ⟨rfl, bt (bt hb1 hb3) hb4⟩
  · have d0 : decide (0 < l) = false := by first | (simp; omega) | simp
    have d1 : decide (l < -1) = true := by first | (simp; omega) | simp
    have d2 : decide (l < 1) = true := by first | (simp; omega) | simp
    go_wp2_with fail
    refine (Value_is l q _ h1 h2 h3 h4 HX.out _).mono ?_
    rintro e w3 ⟨rfl, hb3⟩
    go_wp2_with fail
    refine (Value_is (l + 1) q _ (by omega) (by omega) h3 h4 HY.out _).mono ?_
    rintro e w4 ⟨rfl, hb4⟩
    go_wp2_with fail
    go_ret
    exact ⟨rfl, bt (bt hb1 hb3) hb4⟩
  · have d0 : decide (0 < l) = false := by first | (simp; omega) | simp
    have d1 : decide (l < -1) = true := by first | (simp; omega) | simp
    have d2 : decide (l < 1) = true := by first | (simp; omega) | simp
    have d3 : decide (y < -2048) = false := by first | (simp; omega) | simp
    have d4 : (y == -2048) = false := by first | (simp; omega) | simp
    go_wp2_with fail
    refine (Value_is l q _ h1 h2 h3 h4 HX.out _).mono ?_
    rintro e w3 ⟨rfl, hb3⟩
    go_wp2_with fail
    refine (Value_is (l + 1) q _ (by omega) (by omega) h3 h4 HY.out _).mono ?_
    rintro e w4 ⟨rfl, hb4⟩
    go_wp2_with fail
    go_ret
    exact ⟨rfl, bt (bt hb1 hb3) hb4⟩
  · have C5 := Lib.hid c5
    have c5a : y - x ≤ 2 * q := by omega
    have c5b : 2 * q ≤ y - x := by omega
    clear c5
    have d0 : decide (0 < l) = false := by first | (simp; omega) | simp
    have d1 : decide (l < -1) = true := by first | (simp; omega) | simp
    have d2 : decide (l < 1) = true := by first | (simp; omega) | simp
    have d3 : decide (y < x) = false := by first | (simp; omega) | simp
    have d4 : (y == x) = false := by first | (simp; omega) | simp
    have d5 : decide (-2048 < x) = true := by first | (simp; omega) | simp
    have d6 : (y - x != 2 * q) = false := by first | (simp; omega) | simp
    have d7 : (y - x == 2 * q) = true := by first | (simp; omega) | simp
    go_wp2_with fail
    refine (Value_is l q _ h1 h2 h3 h4 HX.out _).mono ?_
    rintro e w3 ⟨rfl, hb3⟩
    go_wp2_with fail
    refine (Value_is (l + 1) q _ (by omega) (by omega) h3 h4 HY.out _).mono ?_
    rintro e w4 ⟨rfl, hb4⟩
    go_wp2_with fail
    go_ret
    exact ⟨rfl, bt (bt hb1 hb3) hb4⟩

end Go.Proofs.Ytlgpagaclfcoaaa
