/-
  The walks of within, clip, value and Value, and of the reference's level and quantiser: each returns what Spec's function says. Conditions: those that each theorem names.
-/
import Derived.WalkKit
import Derived.Lib.Hide
import Derived.OwnWalk
import Derived.Outline
import Derived.Below
import Derived.Deep.DeepFit
import Derived.Deep.DeepMust
import Derived.Deep.QuietTactic
import Derived.BigQuiet
import Derived.Laws.EntriesVeiled
import Derived.Test.YtlgpagaclfcoaaaProg
import Derived.Test.YtlgpagaclfcoaaaSpec
namespace Go.Proofs.Ytlgpagaclfcoaaa
open Go.RowKit

theorem ret_int {k : IntKind} {a b : Int} (h : a = b) : Ending.returned (.int k a) = .returned (.int k b) := by rw [h]
theorem ret_int2 {k k' : IntKind} {a b a' b' : Int} (h : a = b) (h' : a' = b') : Ending.returned (.tuple #[.int k a, .int k' a']) = .returned (.tuple #[.int k b, .int k' b']) := by rw [h, h']

theorem within_yes (n lo hi : Int) (h1 : lo ≤ n) (h2 : n ≤ hi) (w : World) :
    Calls Try.prog 29 #[.int .i64 n, .int .i64 lo, .int .i64 hi] w fun e w' => e = .returned (.bool true) ∧ w = w' := by
  go_enter Try.func29, Try.ntmps29
  go_wp2
  go_ret
  exact ⟨rfl, rfl⟩

theorem within_no (n lo hi : Int) (h : n < lo ∨ hi < n) (w : World) :
    Calls Try.prog 29 #[.int .i64 n, .int .i64 lo, .int .i64 hi] w fun e w' => e = .returned (.bool false) ∧ w = w' := by
  by_cases h1 : n < lo
  · go_enter Try.func29, Try.ntmps29
    go_wp2
    go_ret
    exact ⟨rfl, rfl⟩
  · have h2 : hi < n := by omega
    have hd : decide (n ≤ hi) = false := by simp; omega
    clear h
    go_enter Try.func29, Try.ntmps29
    go_wp2
    go_ret
    exact ⟨rfl, rfl⟩

theorem clip_any (n lo hi : Int) (w : World) :
    Calls Try.prog 30 #[.int .i64 n, .int .i64 lo, .int .i64 hi] w fun e w' => e = .returned (.int .i64 (max lo (min n hi))) ∧ w = w' := by
  by_cases h1 : hi < n <;> by_cases h2 : lo < (if hi < n then hi else n)
  all_goals
    go_enter Try.func30, Try.ntmps30
    go_wp2
    go_ret
    exact ⟨ret_int (by split at h2 <;> omega), rfl⟩

theorem value_any (far q : Int) (hm0 : 0 ≤ far) (hm : far ≤ 127) (hq0 : 1 ≤ q) (hq : q ≤ 31) (w : World) :
    Calls Try.prog 31 #[.int .i64 far, .int .i64 q] w fun e w' => e = .returned (.int .i64 (vM far q)) ∧ Below w.heap.size w w' := by
  have hb := prod_bd far q hm0 hm hq0 hq
  obtain ⟨hb1, hb2⟩ := hb
  rcases (by omega : q % 2 = 0 ∨ q % 2 = 1) with h | h
  all_goals
    go_enter Try.func31, Try.ntmps31
    go_wp2
    go_ret
    exact ⟨ret_int (by unfold vM; simp [h]), by repeat (first | exact Below.refl _ _ | refine Below.alloc ?_ (by simp) _)⟩


theorem within_any (n lo hi : Int) (w : World) :
    Calls Try.prog 29 #[.int .i64 n, .int .i64 lo, .int .i64 hi] w fun e w' => e = .returned (.bool (inB n lo hi)) ∧ w = w' := by
  by_cases h : lo ≤ n ∧ n ≤ hi
  · rw [inB_yes h.1 h.2]; exact within_yes n lo hi h.1 h.2 w
  · rw [inB_no (by omega)]; exact within_no n lo hi (by omega) w

theorem level_any (l : Int) (w : World) : Calls Try.prog 32 #[.int .i64 l] w fun e w' => e = .returned (.bool (inB l (-127) 127)) ∧ w = w' := by
  by_cases h1 : -127 ≤ l
  · by_cases h2 : l ≤ 127
    · rw [inB_yes h1 h2]
      go_enter Try.func32, Try.ntmps32
      go_wp2
      go_ret
      exact ⟨rfl, rfl⟩
    · rw [inB_no (by omega)]
      have hd : decide (l ≤ 127) = false := by simp; omega
      go_enter Try.func32, Try.ntmps32
      go_wp2
      go_ret
      exact ⟨rfl, rfl⟩
  · rw [inB_no (by omega)]
    go_enter Try.func32, Try.ntmps32
    go_wp2
    go_ret
    exact ⟨rfl, rfl⟩

theorem quantiser_any (l : Int) (w : World) : Calls Try.prog 33 #[.int .i64 l] w fun e w' => e = .returned (.bool (inB l 1 31)) ∧ w = w' := by
  by_cases h1 : 1 ≤ l
  · by_cases h2 : l ≤ 31
    · rw [inB_yes h1 h2]
      go_enter Try.func33, Try.ntmps33
      go_wp2
      go_ret
      exact ⟨rfl, rfl⟩
    · rw [inB_no (by omega)]
      have hd : decide (l ≤ 31) = false := by simp; omega
      go_enter Try.func33, Try.ntmps33
      go_wp2
      go_ret
      exact ⟨rfl, rfl⟩
  · rw [inB_no (by omega)]
    go_enter Try.func33, Try.ntmps33
    go_wp2
    go_ret
    exact ⟨rfl, rfl⟩

theorem Value_bad (l q : Int) (h : l < -127 ∨ 127 < l ∨ q < 1 ∨ 31 < q) (w : World) :
    Calls Try.prog 10 #[.int .i64 l, .int .i64 q] w fun e w' => e = .returned (.tuple #[.int .i64 0, .int .i64 3]) ∧ w = w' := by
  by_cases h1 : -127 ≤ l ∧ l ≤ 127
  · have hA := inB_yes h1.1 h1.2
    have hB : inB q 1 31 = false := inB_no (by omega)
    clear h h1
    go_enter Try.func10, Try.ntmps10
    go_wp2_with (go_at_call 29; refine (within_any _ _ _ _).mono ?_; rintro e w' ⟨rfl, rfl⟩)
    go_ret2
    exact ⟨rfl, rfl⟩
  · have hA : inB l (-127) 127 = false := inB_no (by omega)
    clear h h1
    go_enter Try.func10, Try.ntmps10
    go_wp2_with (go_at_call 29; refine (within_any _ _ _ _).mono ?_; rintro e w' ⟨rfl, rfl⟩)
    go_ret2
    exact ⟨rfl, rfl⟩

theorem Value_good (l q : Int) (h1 : -127 ≤ l) (h2 : l ≤ 127) (h3 : 1 ≤ q) (h4 : q ≤ 31) (w : World) :
    Calls Try.prog 10 #[.int .i64 l, .int .i64 q] w fun e w' => e = .returned (.tuple #[.int .i64 (vV l q), .int .i64 0]) ∧ Below w.heap.size w w' := by
  have hA := inB_yes h1 h2
  have hB := inB_yes h3 h4
  rcases (by omega : 0 < l ∨ l < 0 ∨ l = 0) with h | h | h
  · have hv := vM_bd l q (by omega) h2 h3 h4
    obtain ⟨hv1, hv2⟩ := hv
    go_enter Try.func10, Try.ntmps10
    go_wp2_with (first
      | (go_at_call 29; refine (within_any _ _ _ _).mono ?_; rintro e w' ⟨rfl, rfl⟩)
      | (go_at_call 31; refine (value_any l q (by omega) h2 h3 h4 _).mono ?_; rintro e w' ⟨rfl, hb⟩)
      | (go_at_call 30; refine (clip_any _ _ _ _).mono ?_; rintro e w2 ⟨rfl, rfl⟩))
    go_ret2
    exact ⟨ret_int2 (by unfold vV; rw [if_pos h]; omega) rfl, hb⟩
  · have hv := vM_bd (-l) q (by omega) (by omega) h3 h4
    obtain ⟨hv1, hv2⟩ := hv
    go_enter Try.func10, Try.ntmps10
    go_wp2_with (first
      | (go_at_call 29; refine (within_any _ _ _ _).mono ?_; rintro e w' ⟨rfl, rfl⟩)
      | (go_at_call 31; refine (value_any (-l) q (by omega) (by omega) h3 h4 _).mono ?_; rintro e w' ⟨rfl, hb⟩)
      | (go_at_call 30; refine (clip_any _ _ _ _).mono ?_; rintro e w2 ⟨rfl, rfl⟩))
    go_ret2
    exact ⟨ret_int2 (by unfold vV; rw [if_neg (by omega), if_pos h]; omega) rfl, hb⟩
  · subst h
    go_enter Try.func10, Try.ntmps10
    go_wp2_with (go_at_call 29; refine (within_any _ _ _ _).mono ?_; rintro e w' ⟨rfl, rfl⟩)
    go_ret2
    exact ⟨ret_int2 (by simp [vV]) rfl, Below.refl _ _⟩

end Go.Proofs.Ytlgpagaclfcoaaa
