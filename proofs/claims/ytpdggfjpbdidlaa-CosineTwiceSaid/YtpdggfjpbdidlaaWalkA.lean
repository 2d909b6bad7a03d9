/-
  The walks of quarter and turn, and of the reference's c, weight and Weight: each returns what Spec's function says. Conditions: those that each theorem names.
-/
import Derived.WalkKit
import Derived.Lib.Hide
import Derived.OwnWalk
import Derived.Outline
import Derived.Below
import Derived.Deep.DeepFit
import Derived.Deep.DeepMust
import Derived.Deep.QuietTactic
import Derived.BigQuiet
import Derived.Laws.EntriesVeiled
import Derived.Deep.WholeRow
import Derived.Test.YtpdggfjpbdidlaaProg
import Derived.Test.YtpdggfjpbdidlaaSl
import Derived.Test.YtpdggfjpbdidlaaSpec
namespace Go.Proofs.Ytpdggfjpbdidlaa
open Go.RowKit

theorem ret_int {k : IntKind} {a b : Int} (h : a = b) : Ending.returned (.int k a) = .returned (.int k b) := by rw [h]
theorem ret_int2 {k k' : IntKind} {a b a' b' : Int} (h : a = b) (h' : a' = b') : Ending.returned (.tuple #[.int k a, .int k' a']) = .returned (.tuple #[.int k b, .int k' b']) := by rw [h, h']
theorem bt {a b c : World} (h1 : Below a.heap.size a b) (h2 : Below b.heap.size b c) : Below a.heap.size a c := h1.trans (h2.mono h1.size)

/-- Cells that hold the numbers xs. -/
def cel (xs : List Int) : Array Value := (xs.map (Value.int .i64)).toArray

theorem cel_size (xs : List Int) : (cel xs).size = xs.length := by simp [cel]
theorem cel_get (xs : List Int) (i : Nat) (h : i < xs.length) : (cel xs)[i]? = some (.int .i64 (xs.getD i 0)) := by
  simp [cel, h, List.getD_eq_getElem?_getD]

theorem index9 (k : Nat) (h : k < 9) (w : World) : (Instr.index 52 (.agg (cel cQ)) (.int .i64 (k : Int))).run Try.prog w = .ok (.int .i64 (cS k)) w := by
  rcases (by omega : k = 0 ∨ k = 1 ∨ k = 2 ∨ k = 3 ∨ k = 4 ∨ k = 5 ∨ k = 6 ∨ k = 7 ∨ k = 8) with rfl | rfl | rfl | rfl | rfl | rfl | rfl | rfl | rfl <;> kernel_rfl

theorem quarter_any (w : World) : Calls Try.prog 32 #[] w fun e w' => e = .returned (.agg (cel cQ)) ∧ Below w.heap.size w w' := by
  go_enter Try.func32, Try.ntmps32
  go_wp2
  refine bodyPost_ret (v := .agg (cel cQ)) (results_cell_row rfl _ _ w.heap.size 52 (cel cQ) (0, 0) _ rfl (heap_alloc_new _ _) Try.underlying52 rfl (by kernel_rfl)) rfl ⟨rfl, (Below.refl _ _).alloc (Nat.le_refl _) _⟩

theorem turn_small (k : Nat) (h : k ≤ 16) (w : World) : Calls Try.prog 29 #[.int .i64 (k : Int)] w fun e w' => e = .returned (.int .i64 (cH k)) ∧ Below w.heap.size w w' := by
  by_cases h8 : 8 < k
  · have e1 : cH k = -(cS (16 - k)) := by unfold cH; rw [if_pos h8]
    have hi := index9 (16 - k) (by omega)
    have e2 : ((16 - k : Nat) : Int) = 16 - (k : Int) := by omega
    rw [e2] at hi
    rw [e1]
    have hb : -2048 ≤ cS (16 - k) ∧ cS (16 - k) ≤ 2048 := cS_bd _
    obtain ⟨hb1, hb2⟩ := hb
    clear e1 e2
    generalize cS (16 - k) = z at *
    go_enter Try.func29, Try.ntmps29
    go_wp2_with (go_at_call 32; refine (quarter_any _).mono ?_; rintro e w' ⟨rfl, hb⟩)
    go_ret
    exact ⟨rfl, hb⟩
  · have e1 : cH k = cS k := by unfold cH; rw [if_neg h8]
    have hi := index9 k (by omega)
    rw [e1]
    clear e1
    generalize cS k = z at *
    go_enter Try.func29, Try.ntmps29
    go_wp2_with (go_at_call 32; refine (quarter_any _).mono ?_; rintro e w' ⟨rfl, hb⟩)
    go_ret
    exact ⟨rfl, hb⟩

theorem turn_any (k : Nat) (h : k < 32) (w : World) : Calls Try.prog 29 #[.int .i64 (k : Int)] w fun e w' => e = .returned (.int .i64 (cT k)) ∧ Below w.heap.size w w' := by
  by_cases h16 : 16 < k
  · have e1 : cT k = cH (32 - k) := by unfold cT; rw [if_pos h16]
    have e2 : (32 : Int) - (k : Int) = ((32 - k : Nat) : Int) := by omega
    rw [e1]
    have hC := turn_small (32 - k) (by omega)
    rw [← e2] at hC
    have HC := Lib.hid hC
    clear hC e1 e2
    generalize cH (32 - k) = z at *
    go_enter Try.func29, Try.ntmps29
    go_wp2_with (go_at_call 29; refine (HC.out _).mono ?_; rintro e w' ⟨rfl, hb⟩)
    go_ret
    exact ⟨rfl, hb⟩
  · have e1 : cT k = cH k := by unfold cT; rw [if_neg h16]
    rw [e1]
    exact turn_small k (by omega) w

set_option maxHeartbeats 2000000 in
theorem c_small (k : Nat) (h : k ≤ 16) (w : World) : Calls Try.prog 31 #[.int .i64 (k : Int)] w fun e w' => e = .returned (.int .i64 (cH k)) ∧ Below w.heap.size w w' := by
  by_cases h8 : 8 < k
  · obtain ⟨m, hm⟩ : ∃ m : Nat, m = 16 - k := ⟨_, rfl⟩
    have hm8 : m < 8 := by omega
    have e1 : cH k = -(cS m) := by unfold cH; rw [if_pos h8, hm]
    have e2 : (16 : Int) - (k : Int) = (m : Int) := by omega
    rw [e1]
    clear e1 hm
    go_enter Try.func31, Try.ntmps31
    rcases (by omega : m = 0 ∨ m = 1 ∨ m = 2 ∨ m = 3 ∨ m = 4 ∨ m = 5 ∨ m = 6 ∨ m = 7) with rfl | rfl | rfl | rfl | rfl | rfl | rfl | rfl
    all_goals
      go_wp2_with fail
      go_ret
      exact ⟨rfl, (Below.refl _ _).alloc (Nat.le_refl _) _⟩
  · go_enter Try.func31, Try.ntmps31
    rcases (by omega : k = 0 ∨ k = 1 ∨ k = 2 ∨ k = 3 ∨ k = 4 ∨ k = 5 ∨ k = 6 ∨ k = 7 ∨ k = 8) with rfl | rfl | rfl | rfl | rfl | rfl | rfl | rfl | rfl
    all_goals
      go_wp2_with fail
      go_ret
      exact ⟨rfl, (Below.refl _ _).alloc (Nat.le_refl _) _⟩

theorem c_any (k : Nat) (h : k < 32) (w : World) : Calls Try.prog 31 #[.int .i64 (k : Int)] w fun e w' => e = .returned (.int .i64 (cT k)) ∧ Below w.heap.size w w' := by
  by_cases h16 : 16 < k
  · have e1 : cT k = cH (32 - k) := by unfold cT; rw [if_pos h16]
    have e2 : (32 : Int) - (k : Int) = ((32 - k : Nat) : Int) := by omega
    rw [e1]
    have hC := c_small (32 - k) (by omega)
    rw [← e2] at hC
    have HC := Lib.hid hC
    clear hC e1 e2
    generalize cH (32 - k) = z at *
    go_enter Try.func31, Try.ntmps31
    go_wp2_with (go_at_call 31; refine (HC.out _).mono ?_; rintro e w' ⟨rfl, hb⟩)
    go_ret
    exact ⟨rfl, by have := hb.size; exact ((Below.refl _ _).alloc (Nat.le_refl _) _).trans (hb.mono (by simp))⟩
  · have e1 : cT k = cH k := by unfold cT; rw [if_neg h16]
    rw [e1]
    exact c_small k (by omega) w

theorem arg_eq (u x : Nat) : (2 * (x : Int) + 1) * (u : Int) % 32 = (((2 * x + 1) * u % 32 : Nat) : Int) := by
  simp only [Int.natCast_emod, Int.natCast_mul, Int.natCast_add]
  rfl

theorem arg_bd (u x : Nat) (hu : u < 8) (hx : x < 8) : 0 ≤ (2 * (x : Int) + 1) * (u : Int) ∧ (2 * (x : Int) + 1) * (u : Int) ≤ 105 := by
  constructor
  · exact Int.mul_nonneg (by omega) (by omega)
  · have := Int.mul_le_mul (a := 2 * (x : Int) + 1) (b := (u : Int)) (c := 15) (d := 7) (by omega) (by omega) (by omega) (by omega)
    omega

theorem weight_any (u x : Nat) (hu : u < 8) (hx : x < 8) (w : World) : Calls Try.prog 27 #[.int .i64 (u : Int), .int .i64 (x : Int)] w fun e w' => e = .returned (.int .i64 (wS u x)) ∧ Below w.heap.size w w' := by
  by_cases h : u = 0
  · subst h
    go_enter Try.func27, Try.ntmps27
    go_wp2_with fail
    go_ret
    exact ⟨rfl, Below.refl _ _⟩
  · have hC : ∀ W, Calls Try.prog 31 #[.int .i64 ((2 * (x : Int) + 1) * (u : Int) % 32)] W fun e w' => e = .returned (.int .i64 (wS u x)) ∧ Below W.heap.size W w' := by
      intro W
      have e1 : wS u x = cT ((2 * x + 1) * u % 32) := by unfold wS; rw [if_neg h]
      rw [arg_eq, e1]
      exact c_any _ (Nat.mod_lt _ (by omega)) W
    have HC := Lib.hid hC
    clear hC
    have hp := arg_bd u x hu hx
    obtain ⟨hp1, hp2⟩ := hp
    have hd : ((u : Int) == 0) = false := by simp; omega
    generalize wS u x = z at *
    go_enter Try.func27, Try.ntmps27
    go_wp2_with (go_at_call 31; refine (HC.out _).mono ?_; rintro e w' ⟨rfl, hb⟩)
    go_ret
    exact ⟨rfl, hb⟩

end Go.Proofs.Ytpdggfjpbdidlaa
