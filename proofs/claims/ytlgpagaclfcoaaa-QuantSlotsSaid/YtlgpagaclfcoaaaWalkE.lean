/-
  The walks of near and awake: they return true. Conditions: those that each theorem names.
-/
import Derived.Test.YtlgpagaclfcoaaaWalkD
namespace Go.Proofs.Ytlgpagaclfcoaaa
open Go.RowKit

theorem bt {a b c : World} (h1 : Below a.heap.size a b) (h2 : Below b.heap.size b c) : Below a.heap.size a c := h1.trans (h2.mono h1.size)

theorem near_good (v q n : Int) (hv1 : -2048 ≤ v) (hv2 : v ≤ 2047) (h3 : 1 ≤ q) (h4 : q ≤ 31) (hn : nearL q v 127 = n) (w : World) :
    Calls Try.prog 19 #[.int .i64 v, .int .i64 q, .int .i64 n, .int .i64 0] w fun e w' => e = .returned (.bool true) ∧ Below w.heap.size w w' := by
  have hN : ∀ W : World, Calls Try.prog 14 #[.int .i64 v, .int .i64 q] W fun e w' => e = .returned (.tuple #[.int .i64 n, .int .i64 0]) ∧ Below W.heap.size W w' := by
    intro W
    rw [← hn]
    exact Nearest_good v q hv1 hv2 h3 h4 W
  have HN := Lib.hid hN
  clear hN hn
  go_enter Try.func19, Try.ntmps19
  go_wp2_with (go_at_call 14; refine (HN.out _).mono ?_; rintro e w' ⟨rfl, hb⟩)
  go_ret
  exact ⟨rfl, hb⟩

theorem near_bad (v q : Int) (h : v < -2048 ∨ 2047 < v ∨ q < 1 ∨ 31 < q) (w : World) :
    Calls Try.prog 19 #[.int .i64 v, .int .i64 q, .int .i64 0, .int .i64 3] w fun e w' => e = .returned (.bool true) ∧ Below w.heap.size w w' := by
  have HN : Hid _ := Lib.hid h
  clear h
  go_enter Try.func19, Try.ntmps19
  go_wp2_with (go_at_call 14; refine (Nearest_bad v q HN.out _).mono ?_; rintro e w' ⟨rfl, hb⟩)
  go_ret
  exact ⟨rfl, hb⟩

theorem near_4_1 : nearL 1 4 127 = 1 := by decide +kernel
theorem near_2048_31 : nearL 31 (-2048) 127 = -33 := by decide +kernel
theorem near_0_9 : nearL 9 0 127 = 0 := by decide +kernel
theorem near_2_1 : nearL 1 2 127 = 1 := by decide +kernel

theorem awake_any (w : World) : Calls Try.prog 16 #[] w fun e w' => e = .returned (.bool true) ∧ Below w.heap.size w w' := by
  have hb := Below.refl w.heap.size w
  go_enter Try.func16, Try.ntmps16
  go_wp2_with (first
    | (go_at_call 17; refine (values_yes _ _ _ (by decide) (by decide) (by decide) (by decide) (by decide) _).mono ?_; rintro e w' ⟨rfl, hb'⟩; replace hb := bt hb hb'; clear hb')
    | (go_at_call 18; refine (dc_yes _ _ _ (by decide) (by decide) _).mono ?_; rintro e w' ⟨rfl, rfl⟩)
    | (go_at_call 19; first
        | (with_reducible refine (near_good 4 1 1 (by decide) (by decide) (by decide) (by decide) near_4_1 _).mono ?_)
        | (with_reducible refine (near_good (-2048) 31 (-33) (by decide) (by decide) (by decide) (by decide) near_2048_31 _).mono ?_)
       rintro e w' ⟨rfl, hb'⟩; replace hb := bt hb hb'; clear hb'))
  go_ret
  exact ⟨rfl, hb⟩

end Go.Proofs.Ytlgpagaclfcoaaa
