/-
  The walks of QuantTells and QuantKnown: they return true, whatever the arguments. Conditions: none.
-/
import Derived.Test.YtlgpagaclfcoaaaWalkE
import Derived.Test.YtlgpagaclfcoaaaLaws
namespace Go.Proofs.Ytlgpagaclfcoaaa
open Go.RowKit

theorem Value_any (l q : Int) (w : World) : Calls Try.prog 10 #[.int .i64 l, .int .i64 q] w fun e w' => e = .returned (.tuple #[.int .i64 (vT l q), .int .i64 (vE l q)]) ∧ Below w.heap.size w w' := by
  unfold vT vE
  by_cases h : -127 ≤ l ∧ l ≤ 127 ∧ 1 ≤ q ∧ q ≤ 31
  · rw [if_pos h, if_pos h]
    exact Value_good l q h.1 h.2.1 h.2.2.1 h.2.2.2 w
  · rw [if_neg h, if_neg h]
    exact (Value_bad l q (by omega) w).mono fun e w' hh => ⟨hh.1, by rw [← hh.2]; exact Below.refl _ _⟩

theorem refValue_any (l q : Int) (w : World) : Calls Try.prog 11 #[.int .i64 l, .int .i64 q] w fun e w' => e = .returned (.tuple #[.int .i64 (vT l q), .int .i64 (vE l q)]) ∧ w = w' := by
  unfold vT vE
  by_cases h : -127 ≤ l ∧ l ≤ 127 ∧ 1 ≤ q ∧ q ≤ 31
  · rw [if_pos h, if_pos h]
    exact refValue_good l q h.1 h.2.1 h.2.2.1 h.2.2.2 w
  · rw [if_neg h, if_neg h]
    exact refValue_bad l q (by omega) w

theorem Nearest_any (v q : Int) (w : World) : Calls Try.prog 14 #[.int .i64 v, .int .i64 q] w fun e w' => e = .returned (.tuple #[.int .i64 (nT v q), .int .i64 (nE v q)]) ∧ Below w.heap.size w w' := by
  unfold nT nE
  by_cases h : -2048 ≤ v ∧ v ≤ 2047 ∧ 1 ≤ q ∧ q ≤ 31
  · rw [if_pos h, if_pos h]
    exact Nearest_good v q h.1 h.2.1 h.2.2.1 h.2.2.2 w
  · rw [if_neg h, if_neg h]
    exact Nearest_bad v q (by omega) w

theorem refNearest_any (v q : Int) (w : World) : Calls Try.prog 15 #[.int .i64 v, .int .i64 q] w fun e w' => e = .returned (.tuple #[.int .i64 (nT v q), .int .i64 (nE v q)]) ∧ w = w' := by
  unfold nT nE
  by_cases h : -2048 ≤ v ∧ v ≤ 2047 ∧ 1 ≤ q ∧ q ≤ 31
  · rw [if_pos h, if_pos h, ← near_same q v h.2.2.1 127]
    exact refNearest_good v q h.1 h.2.1 h.2.2.1 h.2.2.2 w
  · rw [if_neg h, if_neg h]
    exact refNearest_bad v q (by omega) w

set_option maxRecDepth 100000 in
theorem tells_walk (l q c v : Int) (w : World) :
    Calls Try.prog 3 #[.int .i64 l, .int .i64 q, .int .i64 c, .int .i64 v] w fun e w' => e = .returned (.bool true) ∧ Below w.heap.size w w' := by
  have hb := Below.refl w.heap.size w
  go_enter Try.func3, Try.ntmps3
  go_wp2_with (first
    | (go_at_call 10; refine (Value_any l q _).mono ?_; rintro e w' ⟨rfl, hb'⟩; replace hb := bt hb hb'; clear hb')
    | (go_at_call 11; refine (refValue_any l q _).mono ?_; rintro e w' ⟨rfl, rfl⟩)
    | (go_at_call 12; refine (DC_any c _).mono ?_; rintro e w' ⟨rfl, rfl⟩)
    | (go_at_call 13; refine (refDC_any c _).mono ?_; rintro e w' ⟨rfl, rfl⟩)
    | (go_at_call 14; refine (Nearest_any v q _).mono ?_; rintro e w' ⟨rfl, hb'⟩; replace hb := bt hb hb'; clear hb')
    | (go_at_call 15; refine (refNearest_any v q _).mono ?_; rintro e w' ⟨rfl, rfl⟩)
    | (go_at_call 16; refine (awake_any _).mono ?_; rintro e w' ⟨rfl, hb'⟩; replace hb := bt hb hb'; clear hb'))
  go_ret
  exact ⟨rfl, hb⟩

set_option maxRecDepth 100000 in
theorem known_walk (w : World) : Calls Try.prog 4 #[] w fun e w' => e = .returned (.bool true) ∧ Below w.heap.size w w' := by
  have hb := Below.refl w.heap.size w
  go_enter Try.func4, Try.ntmps4
  go_wp2_with (first
    | (go_at_call 10; refine (Value_bad _ _ (by decide) _).mono ?_; rintro e w' ⟨rfl, rfl⟩)
    | (go_at_call 16; refine (awake_any _).mono ?_; rintro e w' ⟨rfl, hb'⟩; replace hb := bt hb hb'; clear hb')
    | (go_at_call 17; refine (values_yes _ _ _ (by decide) (by decide) (by decide) (by decide) (by decide) _).mono ?_; rintro e w' ⟨rfl, hb'⟩; replace hb := bt hb hb'; clear hb')
    | (go_at_call 18; refine (dc_yes _ _ _ (by decide) (by decide) _).mono ?_; rintro e w' ⟨rfl, rfl⟩)
    | (go_at_call 19; first
        | (with_reducible refine (near_good 0 9 0 (by decide) (by decide) (by decide) (by decide) near_0_9 _).mono ?_)
        | (with_reducible refine (near_good 2 1 1 (by decide) (by decide) (by decide) (by decide) near_2_1 _).mono ?_)
        | (with_reducible refine (near_bad 2048 1 (by decide) _).mono ?_)
       rintro e w' ⟨rfl, hb'⟩; replace hb := bt hb hb'; clear hb'))
  go_ret
  exact ⟨rfl, hb⟩

end Go.Proofs.Ytlgpagaclfcoaaa
