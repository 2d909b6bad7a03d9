/-
  The walk of CosineLines. Conditions: what comes in reads as a list of numbers.
-/
import Derived.Test.YtpdggfjpbdidlaaWalkM
namespace Go.Proofs.Ytpdggfjpbdidlaa
open Go.RowKit

/-- Both answer alike. -/
theorem weight_both (u x : Int) : ∃ z er : Int, (∀ w, Calls Try.prog 13 #[.int .i64 u, .int .i64 x] w fun e w' => e = .returned (.tuple #[.int .i64 z, .int .i64 er]) ∧ Below w.heap.size w w') ∧
    ∀ w, Calls Try.prog 21 #[.int .i64 u, .int .i64 x] w fun e w' => e = .returned (.tuple #[.int .i64 z, .int .i64 er]) ∧ Below w.heap.size w w' := by
  by_cases h : u < 0 ∨ 7 < u ∨ x < 0 ∨ 7 < x
  · exact ⟨0, 3, fun w => (Weight_bad u x h w).mono fun e w' ⟨h1, h2⟩ => ⟨h1, by rw [← h2]; exact Below.refl _ _⟩, fun w => (refWeight_bad u x h w).mono fun e w' ⟨h1, h2⟩ => ⟨h1, by rw [← h2]; exact Below.refl _ _⟩⟩
  · obtain ⟨a, rfl⟩ := Int.eq_ofNat_of_zero_le (show 0 ≤ u by omega)
    obtain ⟨b, rfl⟩ := Int.eq_ofNat_of_zero_le (show 0 ≤ x by omega)
    exact ⟨wS a b, 0, fun w => Weight_good a b (by omega) (by omega) w, fun w => refWeight_good a b (by omega) (by omega) w⟩

theorem lineR_len (xs : List Int) : (lineR xs).length ≤ 8 := by
  unfold lineR
  split
  · rw [lineL_len]; exact Nat.le_refl _
  · simp

set_option maxRecDepth 100000 in
set_option maxHeartbeats 4000000 in
theorem lines_walk (u x : Int) (v : Value) (xs : List Int) (w : World) (hmax : xs.length ≤ 9223372036854775807) (h : Rd w w.heap.size v xs) :
    Calls Try.prog 7 #[.int .i64 u, .int .i64 x, v] w fun e w' => e = .returned (.bool true) ∧ Below w.heap.size w w' := by
  obtain ⟨a, cap, rfl, _⟩ := id h
  have H := Lib.hid h
  clear h
  by_cases hlen : 20 < xs.length
  · generalize xs.length = n at hlen hmax H
    have hd : decide ((20 : Int) < (n : Int)) = true := by simp; omega
    go_enter Try.func7, Try.ntmps7
    go_wp2_with (go_at_call 14; refine (awake_true _).mono ?_; rintro e w' ⟨rfl, hb'⟩)
    go_ret
    exact ⟨rfl, hb'⟩
  · have hl20 : xs.length ≤ 20 := by omega
    have HL := Lib.hid hl20
    obtain ⟨z, er, hw1, hw2⟩ := weight_both u x
    have HW1 := Lib.hid hw1
    have HW2 := Lib.hid hw2
    have HR := Lib.hid (lineR_len xs)
    obtain ⟨n, hn⟩ : ∃ n, xs.length = n := ⟨_, rfl⟩
    have HN := Lib.hid hn
    have hd : decide ((20 : Int) < (n : Int)) = false := by simp; omega
    rw [hn] at H ⊢
    have HA := Lib.hid (Line_any (xs := xs))
    have HB := Lib.hid (refLine_any (xs := xs))
    generalize lineE xs = le at HA HB
    generalize lineR xs = ys at HA HB HR
    clear hlen hl20 hmax hn hw1 hw2
    go_enter Try.func7, Try.ntmps7
    go_wp2_with fail
    refine (copy_any _ xs (by have := HL.out; omega) _ H.out).mono ?_
    rintro e w1 ⟨v0, rfl, O0, b1⟩
    go_wp2_with fail
    refine (HA.out v0 _ O0.rd).mono ?_
    rintro e w2 ⟨va, rfl, Ra, b2⟩
    have B2 := bt b1 b2
    go_wp2_with fail
    refine (HB.out _ _ (H.out.later B2)).mono ?_
    rintro e w3 ⟨vb, rfl, Rb, b3⟩
    go_wp2_with fail
    refine (HW1.out _).mono ?_
    rintro e w4 ⟨rfl, b4⟩
    go_wp2_with fail
    refine (HW2.out _).mono ?_
    rintro e w5 ⟨rfl, b5⟩
    go_wp2_with fail
    refine (same_any va vb ys _ (by have := HR.out; omega) (Ra.rd2 (bt (bt b3 b4) b5)) (Rb.rd2 (bt b4 b5))).mono ?_
    rintro e w6 ⟨rfl, b6⟩
    go_wp2_with fail
    have B26 : Below w2.heap.size w2 w6 := bt (bt (bt b3 b4) b5) b6
    refine (over_any va ys w1.heap.size w6 (by have := HR.out; omega) (Ra.below B26)).mono ?_
    rintro e w7 ⟨⟨u2, rfl⟩, g7⟩
    have la := Ra.lt
    have B16 : Below w1.heap.size w1 w6 := bt b2 B26
    have B17 : Below w1.heap.size w1 w7 := B16.grown g7 B16.size (fun k hk => (la k hk).1)
    have B7 := bt b1 B17
    go_wp2_with fail
    refine (same_any v0 _ xs _ (by have := HL.out; omega) (O0.rd2 B17) (H.out.later B7)).mono ?_
    rintro e w8 ⟨rfl, b8⟩
    go_wp2_with fail
    refine (awake_true _).mono ?_
    rintro e w9 ⟨rfl, b9⟩
    go_wp2_with fail
    go_ret
    exact ⟨rfl, bt (bt B7 b8) b9⟩

end Go.Proofs.Ytpdggfjpbdidlaa
