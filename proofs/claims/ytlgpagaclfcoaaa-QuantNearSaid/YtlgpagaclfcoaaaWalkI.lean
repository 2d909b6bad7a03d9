/-
  The walk of QuantNear: it returns true, whatever the arguments. Conditions: none.
-/
import Derived.Test.YtlgpagaclfcoaaaWalkG
namespace Go.Proofs.Ytlgpagaclfcoaaa
open Go.RowKit

theorem ret_bool {a : Bool} (h : a = true) : Ending.returned (.bool a) = .returned (.bool true) := by rw [h]

theorem Nearest_is (v q n : Int) (hv1 : -2048 ≤ v) (hv2 : v ≤ 2047) (h3 : 1 ≤ q) (h4 : q ≤ 31) (hn : nearL q v 127 = n) (w : World) :
    Calls Try.prog 14 #[.int .i64 v, .int .i64 q] w fun e w' => e = .returned (.tuple #[.int .i64 n, .int .i64 0]) ∧ Below w.heap.size w w' := by
  rw [← hn]; exact Nearest_good v q hv1 hv2 h3 h4 w

/-- The level that Nearest tells of v, beside a level l. -/
theorem near_facts (v l q : Int) (h1 : -127 ≤ l) (h2 : l ≤ 127) (h3 : 1 ≤ q) (h4 : q ≤ 31) : ∃ n x y m : Int, nearL q v 127 = n ∧ vV n q = x ∧ vV l q = y ∧ nearL q y 127 = m ∧ vV m q = y ∧
    (-127 ≤ n ∧ n ≤ 127 ∧ -127 ≤ m ∧ m ≤ 127 ∧ -2048 ≤ x ∧ x ≤ 2047 ∧ -2048 ≤ y ∧ y ≤ 2047) ∧
    (max (x - v) (v - x) < max (y - v) (v - y) ∨ (max (x - v) (v - x) = max (y - v) (v - y) ∧ max n (-n) ≤ max l (-l))) := by
  have b1 := nearL_bd q v 127
  have b2 := nearL_bd q (vV l q) 127
  refine ⟨_, _, _, _, rfl, rfl, rfl, rfl, ?_, ?_, ?_⟩
  · have h := near_best q (vV l q) 127 l (by omega) (by omega)
    have e : farS l q (vV l q) = 0 := by unfold farS; omega
    rw [e] at h
    generalize nearL q (vV l q) 127 = m at h
    unfold farS at h
    omega
  · have c1 := vV_bd (nearL q v 127) q (by omega) (by omega) h3 h4
    have c2 := vV_bd l q h1 h2 h3 h4
    exact ⟨by omega, by omega, by omega, by omega, c1.1, c1.2, c2.1, c2.2⟩
  · exact near_best q v 127 l (by omega) (by omega)

set_option maxRecDepth 100000 in
set_option maxHeartbeats 4000000 in
theorem near_walk (a b c : Int) (w : World) :
    Calls Try.prog 7 #[.int .i64 a, .int .i64 b, .int .i64 c] w fun e w' => e = .returned (.bool true) ∧ Below w.heap.size w w' := by
  go_enter Try.func7, Try.ntmps7
  go_wp2_with fail
  refine (known_walk _).mono ?_
  rintro e w1 ⟨rfl, hb1⟩
  go_wp2_with fail
  refine (of_any _ _ _).mono ?_
  rintro e w2 ⟨l, q, ⟨h1, h2, h3, h4⟩, rfl, rfl⟩
  go_wp2_with fail
  refine (pick_any _ _ (by omega) (by omega) _).mono ?_
  rintro e w2 ⟨r, ⟨hr1, hr2⟩, rfl, rfl⟩
  obtain ⟨n, x, y, m, hn, hx, hy, hm, hz, ⟨k1, k2, k3, k4, k5, k6, k7, k8⟩, hd⟩ := near_facts (r - 2048) l q h1 h2 h3 h4
  have HN := Lib.hid hn
  have HX := Lib.hid hx
  have HY := Lib.hid hy
  have HM := Lib.hid hm
  have HZ := Lib.hid hz
  have HD := Lib.hid hd
  clear hn hx hy hm hz hd
  go_wp2_with fail
  refine (Nearest_is _ q _ (by omega) (by omega) h3 h4 HN.out _).mono ?_
  rintro e w3 ⟨rfl, hb3⟩
  go_wp2_with fail
  refine (Value_is _ q _ k1 k2 h3 h4 HX.out _).mono ?_
  rintro e w4 ⟨rfl, hb4⟩
  go_wp2_with fail
  refine (Value_is _ q _ h1 h2 h3 h4 HY.out _).mono ?_
  rintro e w5 ⟨rfl, hb5⟩
  go_wp2_with fail
  refine (Nearest_is _ q _ k7 k8 h3 h4 HM.out _).mono ?_
  rintro e w6 ⟨rfl, hb6⟩
  go_wp2_with fail
  refine (Value_is _ q _ k3 k4 h3 h4 HZ.out _).mono ?_
  rintro e w7 ⟨rfl, hb7⟩
  have HB := bt (bt (bt (bt (bt hb1 hb3) hb4) hb5) hb6) hb7
  clear hb1 hb3 hb4 hb5 hb6 hb7
  have hd := HD.out
  by_cases hc1 : x - (r - 2048) < (r - 2048) - x
  · by_cases hc2 : y - (r - 2048) < (r - 2048) - y
    · clear hd
      go_wp2_with fail
      all_goals
        go_ret
        first | exact ⟨rfl, HB⟩ | exact ⟨ret_bool (by have hd := HD.out; simp; omega), HB⟩
    · clear hd
      go_wp2_with fail
      all_goals
        go_ret
        first | exact ⟨rfl, HB⟩ | exact ⟨ret_bool (by have hd := HD.out; simp; omega), HB⟩
  · by_cases hc2 : y - (r - 2048) < (r - 2048) - y
    · clear hd
      go_wp2_with fail
      all_goals
        go_ret
        first | exact ⟨rfl, HB⟩ | exact ⟨ret_bool (by have hd := HD.out; simp; omega), HB⟩
    · clear hd
      go_wp2_with fail
      all_goals
        go_ret
        first | exact ⟨rfl, HB⟩ | exact ⟨ret_bool (by have hd := HD.out; simp; omega), HB⟩

end Go.Proofs.Ytlgpagaclfcoaaa
